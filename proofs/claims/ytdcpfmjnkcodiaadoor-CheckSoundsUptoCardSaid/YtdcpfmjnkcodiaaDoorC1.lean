/- What functions of the program compute, as plain Lean. Printed by decomp.py. -/
import Derived.Test.YtdcpfmjnkcodiaaDoorB3
namespace Go.Proofs.YtdcpfmjnkcodiaaDoor.We
open Go Go.Jv
set_option maxHeartbeats 4000000
structure GroupT where
 Name : ByteArray
 Sort_ : Int
 Min : Int
 Amber : Int
 Lead : Int
 deriving Inhabited, DecidableEq
def GroupT.enc (x : GroupT) : Dat := .agg [(.str x.Name), (.int .i64 x.Sort_), (.int .i64 x.Min), (.int .i64 x.Amber), (.int .i64 x.Lead)]
structure ConflictT where
 A : Int
 B : Int
 AB : Int
 BA : Int
 deriving Inhabited, DecidableEq
def ConflictT.enc (x : ConflictT) : Dat := .agg [(.int .i64 x.A), (.int .i64 x.B), (.int .i64 x.AB), (.int .i64 x.BA)]
structure TablesT where
 Groups : List GroupT
 Conflicts : List ConflictT
 deriving Inhabited, DecidableEq
def TablesT.enc (x : TablesT) : Dat := .agg [(.lst (x.Groups.map GroupT.enc)), (.lst (x.Conflicts.map ConflictT.enc))]
structure DetT where
 Name : ByteArray
 Latch : Bool
 Delay : Int
 Hold : Int
 deriving Inhabited, DecidableEq
def DetT.enc (x : DetT) : Dat := .agg [(.str x.Name), (.bool x.Latch), (.int .i64 x.Delay), (.int .i64 x.Hold)]
structure VarT where
 Name : ByteArray
 Init : Int
 deriving Inhabited, DecidableEq
def VarT.enc (x : VarT) : Dat := .agg [(.str x.Name), (.int .i32 x.Init)]
structure PosT where
 Line : Int
 Col : Int
 deriving Inhabited, DecidableEq
def PosT.enc (x : PosT) : Dat := .agg [(.int .i64 x.Line), (.int .i64 x.Col)]
structure NodeT where
 Op : Int
 Val : Int
 Name : ByteArray
 At : PosT
 deriving Inhabited, DecidableEq
def NodeT.enc (x : NodeT) : Dat := .agg [(.int .i64 x.Op), (.int .i32 x.Val), (.str x.Name), (.int .i64 x.At.Line), (.int .i64 x.At.Col)]
structure StmtT where
 Kind : Int
 Name : ByteArray
 Ix : Int
 Expr : List NodeT
 At : PosT
 deriving Inhabited, DecidableEq
def StmtT.enc (x : StmtT) : Dat := .agg [(.int .i64 x.Kind), (.str x.Name), (.int .i64 x.Ix), (.lst (x.Expr.map NodeT.enc)), (.int .i64 x.At.Line), (.int .i64 x.At.Col)]
structure TNextT where
 To : Int
 When : List NodeT
 deriving Inhabited, DecidableEq
def TNextT.enc (x : TNextT) : Dat := .agg [(.int .i64 x.To), (.lst (x.When.map NodeT.enc))]
structure TStageT where
 Name : ByteArray
 Id : Int
 Green : Int
 Enter : List StmtT
 During : List StmtT
 Leave : List StmtT
 Nexts : List TNextT
 deriving Inhabited, DecidableEq
def TStageT.enc (x : TStageT) : Dat := .agg [(.str x.Name), (.int .i64 x.Id), (.int .u64 x.Green), (.lst (x.Enter.map StmtT.enc)), (.lst (x.During.map StmtT.enc)), (.lst (x.Leave.map StmtT.enc)), (.lst (x.Nexts.map TNextT.enc))]
structure TypedT where
 Name : ByteArray
 Tables : TablesT
 Dets : List DetT
 Timers : List ByteArray
 Counters : List ByteArray
 Vars : List VarT
 Stages : List TStageT
 Start : Int
 deriving Inhabited, DecidableEq
def TypedT.enc (x : TypedT) : Dat := .agg [(.str x.Name), (.lst (x.Tables.Groups.map GroupT.enc)), (.lst (x.Tables.Conflicts.map ConflictT.enc)), (.lst (x.Dets.map DetT.enc)), (.lst (x.Timers.map Dat.str)), (.lst (x.Counters.map Dat.str)), (.lst (x.Vars.map VarT.enc)), (.lst (x.Stages.map TStageT.enc)), (.int .i64 x.Start)]
structure Anon_unit_worthT where
 unit : ByteArray
 worth : Int
 deriving Inhabited, DecidableEq
structure Tree_deepT where
 op : Int
 nest : Int
 deriving Inhabited, DecidableEq
def Tree_deepT.enc (x : Tree_deepT) : Dat := .agg [(.int .i64 x.op), (.int .i64 x.nest)]
abbrev LL (α : Type) := List (List α)
abbrev R9 := (LL NodeT) × (LL StmtT) × (LL TNextT) × (LL TStageT) × (LL GroupT) × (LL ConflictT) × (LL DetT) × (LL VarT) × (LL ByteArray)
abbrev o22_1 (w : AV) (x : List (List NodeT)) : Jv.Item := .own w ⟨22, 1⟩ (x.map (eL NodeT.enc))
abbrev o58_1 (w : AV) (x : List (List StmtT)) : Jv.Item := .own w ⟨58, 1⟩ (x.map (eL StmtT.enc))
abbrev o194_1 (w : AV) (x : List (List TNextT)) : Jv.Item := .own w ⟨194, 1⟩ (x.map (eL TNextT.enc))
abbrev o93_1 (w : AV) (x : List (List TStageT)) : Jv.Item := .own w ⟨93, 1⟩ (x.map (eL TStageT.enc))
abbrev o86_1 (w : AV) (x : List (List GroupT)) : Jv.Item := .own w ⟨86, 1⟩ (x.map (eL GroupT.enc))
abbrev o87_1 (w : AV) (x : List (List ConflictT)) : Jv.Item := .own w ⟨87, 1⟩ (x.map (eL ConflictT.enc))
abbrev o90_1 (w : AV) (x : List (List DetT)) : Jv.Item := .own w ⟨90, 1⟩ (x.map (eL DetT.enc))
abbrev o92_1 (w : AV) (x : List (List VarT)) : Jv.Item := .own w ⟨92, 1⟩ (x.map (eL VarT.enc))
abbrev o91_1 (w : AV) (x : List (List ByteArray)) : Jv.Item := .own w ⟨91, 1⟩ (x.map (eL Dat.str))
abbrev o140_6 (w : AV) (x : List StmtT) : Jv.Item := .own w ⟨140, 6⟩ (x.map StmtT.enc)
abbrev o196_7 (w : AV) (x : List TStageT) : Jv.Item := .own w ⟨196, 7⟩ (x.map TStageT.enc)
abbrev o198_2 (w : AV) (x : List TNextT) : Jv.Item := .own w ⟨198, 2⟩ (x.map TNextT.enc)
abbrev o9_1 (w : AV) (x : List ByteArray) : Jv.Item := .own w ⟨9, 1⟩ (x.map Dat.str)
abbrev o119_2 (w : AV) (x : List Tree_deepT) : Jv.Item := .own w ⟨119, 2⟩ (x.map Tree_deepT.enc)
abbrev o3_1 (w : AV) (x : List Int) : Jv.Item := .own w ⟨3, 1⟩ (x.map (Dat.int .i64))
abbrev o4_1 (w : AV) (x : List Bool) : Jv.Item := .own w ⟨4, 1⟩ (x.map Dat.bool)
abbrev GroupT.av (x : GroupT) : List AV := [.d (.str x.Name), .d (.int .i64 x.Sort_), .d (.int .i64 x.Min), .d (.int .i64 x.Amber), .d (.int .i64 x.Lead)]
abbrev ConflictT.av (x : ConflictT) : List AV := [.d (.int .i64 x.A), .d (.int .i64 x.B), .d (.int .i64 x.AB), .d (.int .i64 x.BA)]
abbrev TablesT.av (x : TablesT) : List AV := [.d (.lst (x.Groups.map GroupT.enc)), .d (.lst (x.Conflicts.map ConflictT.enc))]
abbrev DetT.av (x : DetT) : List AV := [.d (.str x.Name), .d (.bool x.Latch), .d (.int .i64 x.Delay), .d (.int .i64 x.Hold)]
abbrev VarT.av (x : VarT) : List AV := [.d (.str x.Name), .d (.int .i32 x.Init)]
abbrev PosT.av (x : PosT) : List AV := [.d (.int .i64 x.Line), .d (.int .i64 x.Col)]
abbrev NodeT.av (x : NodeT) : List AV := [.d (.int .i64 x.Op), .d (.int .i32 x.Val), .d (.str x.Name), .d (.int .i64 x.At.Line), .d (.int .i64 x.At.Col)]
abbrev StmtT.av (x : StmtT) : List AV := [.d (.int .i64 x.Kind), .d (.str x.Name), .d (.int .i64 x.Ix), .d (.lst (x.Expr.map NodeT.enc)), .d (.int .i64 x.At.Line), .d (.int .i64 x.At.Col)]
abbrev TNextT.av (x : TNextT) : List AV := [.d (.int .i64 x.To), .d (.lst (x.When.map NodeT.enc))]
abbrev TStageT.av (x : TStageT) : List AV := [.d (.str x.Name), .d (.int .i64 x.Id), .d (.int .u64 x.Green), .d (.lst (x.Enter.map StmtT.enc)), .d (.lst (x.During.map StmtT.enc)), .d (.lst (x.Leave.map StmtT.enc)), .d (.lst (x.Nexts.map TNextT.enc))]
abbrev TypedT.av (x : TypedT) : List AV := [.d (.str x.Name), .d (.lst (x.Tables.Groups.map GroupT.enc)), .d (.lst (x.Tables.Conflicts.map ConflictT.enc)), .d (.lst (x.Dets.map DetT.enc)), .d (.lst (x.Timers.map Dat.str)), .d (.lst (x.Counters.map Dat.str)), .d (.lst (x.Vars.map VarT.enc)), .d (.lst (x.Stages.map TStageT.enc)), .d (.int .i64 x.Start)]
abbrev Tree_deepT.av (x : Tree_deepT) : List AV := [.d (.int .i64 x.op), .d (.int .i64 x.nest)]
def arith_operands_tab : List Int := [0, 0, 0, 0, 0, 0, 0, 0, 0, 0, 0, 0, 0, 0, 0, 0, 0, 0, 0, 0, 1, 1, 1, 0, 0, 0, 0, 0, 0, 0, 2, 2, 2, 2, 2, 2, 2, 0, 0, 0, 2, 2, 2, 2, 2, 2, 0, 0, 0, 0, 2, 2]
def r2_words_tab : List ByteArray := [⟨#[112, 108, 97, 110]⟩, ⟨#[99, 111, 110, 115, 116]⟩, ⟨#[103, 114, 111, 117, 112]⟩, ⟨#[118, 101, 104, 105, 99, 108, 101]⟩, ⟨#[112, 101, 100, 101, 115, 116, 114, 105, 97, 110]⟩, ⟨#[109, 105, 110]⟩, ⟨#[97, 109, 98, 101, 114]⟩, ⟨#[108, 101, 97, 100]⟩, ⟨#[99, 111, 110, 102, 108, 105, 99, 116]⟩, ⟨#[100, 101, 116, 101, 99, 116, 111, 114]⟩, ⟨#[108, 97, 116, 99, 104]⟩, ⟨#[100, 101, 108, 97, 121]⟩, ⟨#[104, 111, 108, 100]⟩, ⟨#[116, 105, 109, 101, 114]⟩, ⟨#[99, 111, 117, 110, 116, 101, 114]⟩, ⟨#[118, 97, 114]⟩, ⟨#[99, 111, 110, 100]⟩, ⟨#[115, 116, 97, 114, 116]⟩, ⟨#[115, 116, 97, 103, 101]⟩, ⟨#[103, 114, 101, 101, 110]⟩, ⟨#[101, 110, 116, 101, 114]⟩, ⟨#[100, 117, 114, 105, 110, 103]⟩, ⟨#[108, 101, 97, 118, 101]⟩, ⟨#[110, 101, 120, 116]⟩, ⟨#[119, 104, 101, 110]⟩, ⟨#[114, 101, 115, 101, 116]⟩, ⟨#[114, 117, 110]⟩, ⟨#[115, 116, 111, 112]⟩, ⟨#[99, 111, 117, 110, 116]⟩, ⟨#[99, 108, 101, 97, 114]⟩, ⟨#[105, 102]⟩, ⟨#[101, 108, 115, 101]⟩, ⟨#[111, 114]⟩, ⟨#[97, 110, 100]⟩, ⟨#[110, 111, 116]⟩, ⟨#[116, 114, 117, 101]⟩, ⟨#[102, 97, 108, 115, 101]⟩, ⟨#[101, 108, 97, 112, 115, 101, 100]⟩, ⟨#[114, 101, 100]⟩, ⟨#[109, 97, 120]⟩, ⟨#[97, 98, 115]⟩]
def r2_signs_tab : List ByteArray := [⟨#[123]⟩, ⟨#[125]⟩, ⟨#[40]⟩, ⟨#[41]⟩, ⟨#[44]⟩, ⟨#[59]⟩, ⟨#[61]⟩, ⟨#[61, 61]⟩, ⟨#[33, 61]⟩, ⟨#[60]⟩, ⟨#[60, 61]⟩, ⟨#[62]⟩, ⟨#[62, 61]⟩, ⟨#[43]⟩, ⟨#[45]⟩, ⟨#[42]⟩, ⟨#[47]⟩, ⟨#[37]⟩]
def lex_words_tab : List ByteArray := [⟨#[112, 108, 97, 110]⟩, ⟨#[99, 111, 110, 115, 116]⟩, ⟨#[103, 114, 111, 117, 112]⟩, ⟨#[118, 101, 104, 105, 99, 108, 101]⟩, ⟨#[112, 101, 100, 101, 115, 116, 114, 105, 97, 110]⟩, ⟨#[109, 105, 110]⟩, ⟨#[97, 109, 98, 101, 114]⟩, ⟨#[108, 101, 97, 100]⟩, ⟨#[99, 111, 110, 102, 108, 105, 99, 116]⟩, ⟨#[100, 101, 116, 101, 99, 116, 111, 114]⟩, ⟨#[108, 97, 116, 99, 104]⟩, ⟨#[100, 101, 108, 97, 121]⟩, ⟨#[104, 111, 108, 100]⟩, ⟨#[116, 105, 109, 101, 114]⟩, ⟨#[99, 111, 117, 110, 116, 101, 114]⟩, ⟨#[118, 97, 114]⟩, ⟨#[99, 111, 110, 100]⟩, ⟨#[115, 116, 97, 114, 116]⟩, ⟨#[115, 116, 97, 103, 101]⟩, ⟨#[103, 114, 101, 101, 110]⟩, ⟨#[101, 110, 116, 101, 114]⟩, ⟨#[100, 117, 114, 105, 110, 103]⟩, ⟨#[108, 101, 97, 118, 101]⟩, ⟨#[110, 101, 120, 116]⟩, ⟨#[119, 104, 101, 110]⟩, ⟨#[114, 101, 115, 101, 116]⟩, ⟨#[114, 117, 110]⟩, ⟨#[115, 116, 111, 112]⟩, ⟨#[99, 111, 117, 110, 116]⟩, ⟨#[99, 108, 101, 97, 114]⟩, ⟨#[105, 102]⟩, ⟨#[101, 108, 115, 101]⟩, ⟨#[111, 114]⟩, ⟨#[97, 110, 100]⟩, ⟨#[110, 111, 116]⟩, ⟨#[116, 114, 117, 101]⟩, ⟨#[102, 97, 108, 115, 101]⟩, ⟨#[101, 108, 97, 112, 115, 101, 100]⟩, ⟨#[114, 101, 100]⟩, ⟨#[109, 97, 120]⟩, ⟨#[97, 98, 115]⟩]
def lex_signs_tab : List ByteArray := [⟨#[123]⟩, ⟨#[125]⟩, ⟨#[40]⟩, ⟨#[41]⟩, ⟨#[44]⟩, ⟨#[59]⟩, ⟨#[61]⟩, ⟨#[61, 61]⟩, ⟨#[33, 61]⟩, ⟨#[60]⟩, ⟨#[60, 61]⟩, ⟨#[62]⟩, ⟨#[62, 61]⟩, ⟨#[43]⟩, ⟨#[45]⟩, ⟨#[42]⟩, ⟨#[47]⟩, ⟨#[37]⟩]
def r5_Room_Nodes (nodes : LL NodeT) (stmts : LL StmtT) (tnexts : LL TNextT) (stages : LL TStageT) (groups : LL GroupT) (pairs : LL ConflictT) (dets : LL DetT) (vars : LL VarT) (texts : LL ByteArray) (e : List NodeT) : Option ((List NodeT) × R9) :=
 (app 48 [] e) >>= fun t9 => (app 48 t9 [(⟨4444, 0, ⟨#[]⟩, (⟨0, 0⟩ : PosT)⟩ : NodeT), (⟨4444, 0, ⟨#[]⟩, (⟨0, 0⟩ : PosT)⟩ : NodeT)]) >>= fun t13 => (app 24 nodes [t13]) >>= fun t21 => (cut t13 0 (e.length : Int)) >>= fun t27 => some (t27, t21, stmts, tnexts, stages, groups, pairs, dets, vars, texts)
def r5_SameNodes_L1 (a : List NodeT) (b : List NodeT) (i : Int) : Option Bool :=
 if i < (a.length : Int) then (idx a i) >>= fun t19 => (idx b i) >>= fun t23 => (if (!(decide (t19.Op = t23.Op) && (decide (t19.Val = t23.Val) && (decide (t19.Name = t23.Name) && (decide (t19.At.Line = t23.At.Line) && (decide (t19.At.Col = t23.At.Col) && true)))))) = true then some false else r5_SameNodes_L1 a b (w64 (i + 1))) else some true
  partial_fixpoint
def r5_SameNodes (a : List NodeT) (b : List NodeT) : Option Bool :=
 if (a.length : Int) = (b.length : Int) then r5_SameNodes_L1 a b 0 else some false
def r5_Room_plans_L6 (nodes : LL NodeT) (stmts : LL StmtT) (tnexts : LL TNextT) (stages : LL TStageT) (groups : LL GroupT) (pairs : LL ConflictT) (dets : LL DetT) (vars : LL VarT) (texts : LL ByteArray) (i : Int) : Option (Bool × R9) :=
 if i < 0 then none else some (true, nodes, stmts, tnexts, stages, groups, pairs, dets, vars, texts)
def r5_Room_plans_L5 (nodes : LL NodeT) (stmts : LL StmtT) (tnexts : LL TNextT) (stages : LL TStageT) (groups : LL GroupT) (pairs : LL ConflictT) (dets : LL DetT) (vars : LL VarT) (texts : LL ByteArray) (i : Int) : Option (Bool × R9) :=
 if i < (stages.length : Int) then (idx stages i) >>= fun t165 => (idx t165 (w64 ((t165.length : Int) - 2))) >>= fun t171 => (if t171.Id = 4444 then (idx t165 (w64 ((t165.length : Int) - 1))) >>= fun t180 => (if t180.Id = 4444 then r5_Room_plans_L5 nodes stmts tnexts stages groups pairs dets vars texts (w64 (i + 1)) else some (false, nodes, stmts, tnexts, stages, groups, pairs, dets, vars, texts)) else some (false, nodes, stmts, tnexts, stages, groups, pairs, dets, vars, texts)) else r5_Room_plans_L6 nodes stmts tnexts stages groups pairs dets vars texts 0
  partial_fixpoint
def r5_Room_plans_L4 (nodes : LL NodeT) (stmts : LL StmtT) (tnexts : LL TNextT) (stages : LL TStageT) (groups : LL GroupT) (pairs : LL ConflictT) (dets : LL DetT) (vars : LL VarT) (texts : LL ByteArray) (i : Int) : Option (Bool × R9) :=
 if i < 0 then none else r5_Room_plans_L5 nodes stmts tnexts stages groups pairs dets vars texts 0
def r5_Room_plans_L3 (nodes : LL NodeT) (stmts : LL StmtT) (tnexts : LL TNextT) (stages : LL TStageT) (groups : LL GroupT) (pairs : LL ConflictT) (dets : LL DetT) (vars : LL VarT) (texts : LL ByteArray) (i : Int) : Option (Bool × R9) :=
 if i < (tnexts.length : Int) then (idx tnexts i) >>= fun t97 => (idx t97 (w64 ((t97.length : Int) - 2))) >>= fun t103 => (if t103.To = 4444 then (idx t97 (w64 ((t97.length : Int) - 1))) >>= fun t112 => (if t112.To = 4444 then r5_Room_plans_L3 nodes stmts tnexts stages groups pairs dets vars texts (w64 (i + 1)) else some (false, nodes, stmts, tnexts, stages, groups, pairs, dets, vars, texts)) else some (false, nodes, stmts, tnexts, stages, groups, pairs, dets, vars, texts)) else r5_Room_plans_L4 nodes stmts tnexts stages groups pairs dets vars texts 0
  partial_fixpoint
def r5_Room_plans_L2 (nodes : LL NodeT) (stmts : LL StmtT) (tnexts : LL TNextT) (stages : LL TStageT) (groups : LL GroupT) (pairs : LL ConflictT) (dets : LL DetT) (vars : LL VarT) (texts : LL ByteArray) (i : Int) : Option (Bool × R9) :=
 if i < (stmts.length : Int) then (idx stmts i) >>= fun t63 => (idx t63 (w64 ((t63.length : Int) - 2))) >>= fun t69 => (if t69.Kind = 4444 then (idx t63 (w64 ((t63.length : Int) - 1))) >>= fun t78 => (if t78.Kind = 4444 then r5_Room_plans_L2 nodes stmts tnexts stages groups pairs dets vars texts (w64 (i + 1)) else some (false, nodes, stmts, tnexts, stages, groups, pairs, dets, vars, texts)) else some (false, nodes, stmts, tnexts, stages, groups, pairs, dets, vars, texts)) else r5_Room_plans_L3 nodes stmts tnexts stages groups pairs dets vars texts 0
  partial_fixpoint
def r5_Room_plans_L1 (nodes : LL NodeT) (stmts : LL StmtT) (tnexts : LL TNextT) (stages : LL TStageT) (groups : LL GroupT) (pairs : LL ConflictT) (dets : LL DetT) (vars : LL VarT) (texts : LL ByteArray) (i : Int) : Option (Bool × R9) :=
 if i < (nodes.length : Int) then (idx nodes i) >>= fun t29 => (idx t29 (w64 ((t29.length : Int) - 2))) >>= fun t35 => (if t35.Op = 4444 then (idx t29 (w64 ((t29.length : Int) - 1))) >>= fun t44 => (if t44.Op = 4444 then r5_Room_plans_L1 nodes stmts tnexts stages groups pairs dets vars texts (w64 (i + 1)) else some (false, nodes, stmts, tnexts, stages, groups, pairs, dets, vars, texts)) else some (false, nodes, stmts, tnexts, stages, groups, pairs, dets, vars, texts)) else r5_Room_plans_L2 nodes stmts tnexts stages groups pairs dets vars texts 0
  partial_fixpoint
def r5_Room_plans (nodes : LL NodeT) (stmts : LL StmtT) (tnexts : LL TNextT) (stages : LL TStageT) (groups : LL GroupT) (pairs : LL ConflictT) (dets : LL DetT) (vars : LL VarT) (texts : LL ByteArray) : Option (Bool × R9) :=
 r5_Room_plans_L1 nodes stmts tnexts stages groups pairs dets vars texts 0
def r5_Room_things_L5 (nodes : LL NodeT) (stmts : LL StmtT) (tnexts : LL TNextT) (stages : LL TStageT) (groups : LL GroupT) (pairs : LL ConflictT) (dets : LL DetT) (vars : LL VarT) (texts : LL ByteArray) (i : Int) : Option (Bool × R9) :=
 if i < 0 then none else some (true, nodes, stmts, tnexts, stages, groups, pairs, dets, vars, texts)
def r5_Room_things_L4 (nodes : LL NodeT) (stmts : LL StmtT) (tnexts : LL TNextT) (stages : LL TStageT) (groups : LL GroupT) (pairs : LL ConflictT) (dets : LL DetT) (vars : LL VarT) (texts : LL ByteArray) (i : Int) : Option (Bool × R9) :=
 if i < 0 then none else r5_Room_things_L5 nodes stmts tnexts stages groups pairs dets vars texts 0
def r5_Room_things_L3 (nodes : LL NodeT) (stmts : LL StmtT) (tnexts : LL TNextT) (stages : LL TStageT) (groups : LL GroupT) (pairs : LL ConflictT) (dets : LL DetT) (vars : LL VarT) (texts : LL ByteArray) (i : Int) : Option (Bool × R9) :=
 if i < (vars.length : Int) then (idx vars i) >>= fun t124 => (idx t124 (w64 ((t124.length : Int) - 2))) >>= fun t130 => (if t130.Init = 4444 then (idx t124 (w64 ((t124.length : Int) - 1))) >>= fun t139 => (if t139.Init = 4444 then r5_Room_things_L3 nodes stmts tnexts stages groups pairs dets vars texts (w64 (i + 1)) else some (false, nodes, stmts, tnexts, stages, groups, pairs, dets, vars, texts)) else some (false, nodes, stmts, tnexts, stages, groups, pairs, dets, vars, texts)) else r5_Room_things_L4 nodes stmts tnexts stages groups pairs dets vars texts 0
  partial_fixpoint
def r5_Room_things_L2 (nodes : LL NodeT) (stmts : LL StmtT) (tnexts : LL TNextT) (stages : LL TStageT) (groups : LL GroupT) (pairs : LL ConflictT) (dets : LL DetT) (vars : LL VarT) (texts : LL ByteArray) (i : Int) : Option (Bool × R9) :=
 if i < (dets.length : Int) then (idx dets i) >>= fun t90 => (idx t90 (w64 ((t90.length : Int) - 2))) >>= fun t96 => (if t96.Delay = 4444 then (idx t90 (w64 ((t90.length : Int) - 1))) >>= fun t105 => (if t105.Delay = 4444 then r5_Room_things_L2 nodes stmts tnexts stages groups pairs dets vars texts (w64 (i + 1)) else some (false, nodes, stmts, tnexts, stages, groups, pairs, dets, vars, texts)) else some (false, nodes, stmts, tnexts, stages, groups, pairs, dets, vars, texts)) else r5_Room_things_L3 nodes stmts tnexts stages groups pairs dets vars texts 0
  partial_fixpoint
def r5_Room_things_L1 (nodes : LL NodeT) (stmts : LL StmtT) (tnexts : LL TNextT) (stages : LL TStageT) (groups : LL GroupT) (pairs : LL ConflictT) (dets : LL DetT) (vars : LL VarT) (texts : LL ByteArray) (i : Int) : Option (Bool × R9) :=
 if i < (groups.length : Int) then (idx groups i) >>= fun t29 => (idx pairs i) >>= fun t36 => (idx t29 (w64 ((t29.length : Int) - 2))) >>= fun t42 => (if t42.Min = 4444 then (idx t29 (w64 ((t29.length : Int) - 1))) >>= fun t51 => (if t51.Min = 4444 then (idx t36 (w64 ((t36.length : Int) - 2))) >>= fun t61 => (if t61.A = 4444 then (idx t36 (w64 ((t36.length : Int) - 1))) >>= fun t71 => (if t71.A = 4444 then r5_Room_things_L1 nodes stmts tnexts stages groups pairs dets vars texts (w64 (i + 1)) else some (false, nodes, stmts, tnexts, stages, groups, pairs, dets, vars, texts)) else some (false, nodes, stmts, tnexts, stages, groups, pairs, dets, vars, texts)) else some (false, nodes, stmts, tnexts, stages, groups, pairs, dets, vars, texts)) else some (false, nodes, stmts, tnexts, stages, groups, pairs, dets, vars, texts)) else r5_Room_things_L2 nodes stmts tnexts stages groups pairs dets vars texts 0
  partial_fixpoint
def r5_Room_things (nodes : LL NodeT) (stmts : LL StmtT) (tnexts : LL TNextT) (stages : LL TStageT) (groups : LL GroupT) (pairs : LL ConflictT) (dets : LL DetT) (vars : LL VarT) (texts : LL ByteArray) : Option (Bool × R9) :=
 r5_Room_things_L1 nodes stmts tnexts stages groups pairs dets vars texts 0
def r5_Room_Whole_L4 (nodes : LL NodeT) (stmts : LL StmtT) (tnexts : LL TNextT) (stages : LL TStageT) (groups : LL GroupT) (pairs : LL ConflictT) (dets : LL DetT) (vars : LL VarT) (texts : LL ByteArray) (i : Int) : Option (Bool × R9) :=
 if i < 0 then none else (r5_Room_plans nodes stmts tnexts stages groups pairs dets vars texts) >>= fun t140 => (if t140.1 = true then (r5_Room_things t140.2.1 t140.2.2.1 t140.2.2.2.1 t140.2.2.2.2.1 t140.2.2.2.2.2.1 t140.2.2.2.2.2.2.1 t140.2.2.2.2.2.2.2.1 t140.2.2.2.2.2.2.2.2.1 t140.2.2.2.2.2.2.2.2.2) >>= fun t143 => some (t143.1, t143.2.1, t143.2.2.1, t143.2.2.2.1, t143.2.2.2.2.1, t143.2.2.2.2.2.1, t143.2.2.2.2.2.2.1, t143.2.2.2.2.2.2.2.1, t143.2.2.2.2.2.2.2.2.1, t143.2.2.2.2.2.2.2.2.2) else some (false, t140.2.1, t140.2.2.1, t140.2.2.2.1, t140.2.2.2.2.1, t140.2.2.2.2.2.1, t140.2.2.2.2.2.2.1, t140.2.2.2.2.2.2.2.1, t140.2.2.2.2.2.2.2.2.1, t140.2.2.2.2.2.2.2.2.2))
def r5_Room_Whole_L3 (nodes : LL NodeT) (stmts : LL StmtT) (tnexts : LL TNextT) (stages : LL TStageT) (groups : LL GroupT) (pairs : LL ConflictT) (dets : LL DetT) (vars : LL VarT) (texts : LL ByteArray) (i : Int) : Option (Bool × R9) :=
 if i < 0 then none else r5_Room_Whole_L4 nodes stmts tnexts stages groups pairs dets vars texts 0
def r5_Room_Whole_L2 (nodes : LL NodeT) (stmts : LL StmtT) (tnexts : LL TNextT) (stages : LL TStageT) (groups : LL GroupT) (pairs : LL ConflictT) (dets : LL DetT) (vars : LL VarT) (texts : LL ByteArray) (i : Int) : Option (Bool × R9) :=
 if i < 0 then none else r5_Room_Whole_L3 nodes stmts tnexts stages groups pairs dets vars texts 0
def r5_Room_Whole_L1 (nodes : LL NodeT) (stmts : LL StmtT) (tnexts : LL TNextT) (stages : LL TStageT) (groups : LL GroupT) (pairs : LL ConflictT) (dets : LL DetT) (vars : LL VarT) (texts : LL ByteArray) (i : Int) : Option (Bool × R9) :=
 if i < (texts.length : Int) then (idx texts i) >>= fun t25 => (idx t25 (w64 ((t25.length : Int) - 2))) >>= fun t31 => (if t31 = (⟨#[114, 111, 111, 109]⟩ : ByteArray) then (idx t25 (w64 ((t25.length : Int) - 1))) >>= fun t39 => (if t39 = (⟨#[114, 111, 111, 109]⟩ : ByteArray) then r5_Room_Whole_L1 nodes stmts tnexts stages groups pairs dets vars texts (w64 (i + 1)) else some (false, nodes, stmts, tnexts, stages, groups, pairs, dets, vars, texts)) else some (false, nodes, stmts, tnexts, stages, groups, pairs, dets, vars, texts)) else r5_Room_Whole_L2 nodes stmts tnexts stages groups pairs dets vars texts 0
  partial_fixpoint
def r5_Room_Whole (nodes : LL NodeT) (stmts : LL StmtT) (tnexts : LL TNextT) (stages : LL TStageT) (groups : LL GroupT) (pairs : LL ConflictT) (dets : LL DetT) (vars : LL VarT) (texts : LL ByteArray) : Option (Bool × R9) :=
 r5_Room_Whole_L1 nodes stmts tnexts stages groups pairs dets vars texts 0
inductive r5_Room_Stmts_L1_S where
 | c0 (nodes : LL NodeT) (stmts : LL StmtT) (tnexts : LL TNextT) (stages : LL TStageT) (groups : LL GroupT) (pairs : LL ConflictT) (dets : LL DetT) (vars : LL VarT) (texts : LL ByteArray) (full : List StmtT) (i : Int)
def r5_Room_Stmts_L1_run (l : List StmtT) (Kind : Int) (Name : ByteArray) (Ix : Int) (At_Line : Int) (At_Col : Int) (st : r5_Room_Stmts_L1_S) : Option ((List StmtT) × R9) :=
 match st with
 | .c0 nodes stmts tnexts stages groups pairs dets vars texts full i => if i < (l.length : Int) then (idx l i) >>= fun t18 => (r5_Room_Nodes nodes stmts tnexts stages groups pairs dets vars texts t18.Expr) >>= fun t23 => (app 72 full [(⟨t18.Kind, t18.Name, t18.Ix, t23.1, t18.At⟩ : StmtT)]) >>= fun t28 => r5_Room_Stmts_L1_run l Kind Name Ix At_Line At_Col (.c0 t23.2.1 t23.2.2.1 t23.2.2.2.1 t23.2.2.2.2.1 t23.2.2.2.2.2.1 t23.2.2.2.2.2.2.1 t23.2.2.2.2.2.2.2.1 t23.2.2.2.2.2.2.2.2.1 t23.2.2.2.2.2.2.2.2.2 t28 (w64 (i + 1))) else (app 72 full [(⟨Kind, Name, Ix, [], (⟨At_Line, At_Col⟩ : PosT)⟩ : StmtT), (⟨Kind, Name, Ix, [], (⟨At_Line, At_Col⟩ : PosT)⟩ : StmtT)]) >>= fun t33 => (app 24 stmts [t33]) >>= fun t41 => (cut t33 0 (l.length : Int)) >>= fun t47 => some (t47, nodes, t41, tnexts, stages, groups, pairs, dets, vars, texts)
  partial_fixpoint
def r5_Room_Stmts_L1 (nodes : LL NodeT) (stmts : LL StmtT) (tnexts : LL TNextT) (stages : LL TStageT) (groups : LL GroupT) (pairs : LL ConflictT) (dets : LL DetT) (vars : LL VarT) (texts : LL ByteArray) (l : List StmtT) (Kind : Int) (Name : ByteArray) (Ix : Int) (At_Line : Int) (At_Col : Int) (full : List StmtT) (i : Int) : Option ((List StmtT) × R9) := r5_Room_Stmts_L1_run l Kind Name Ix At_Line At_Col (.c0 nodes stmts tnexts stages groups pairs dets vars texts full i)
theorem r5_Room_Stmts_L1_eq (nodes : LL NodeT) (stmts : LL StmtT) (tnexts : LL TNextT) (stages : LL TStageT) (groups : LL GroupT) (pairs : LL ConflictT) (dets : LL DetT) (vars : LL VarT) (texts : LL ByteArray) (l : List StmtT) (Kind : Int) (Name : ByteArray) (Ix : Int) (At_Line : Int) (At_Col : Int) (full : List StmtT) (i : Int) : r5_Room_Stmts_L1 nodes stmts tnexts stages groups pairs dets vars texts l Kind Name Ix At_Line At_Col full i = (if i < (l.length : Int) then (idx l i) >>= fun t18 => (r5_Room_Nodes nodes stmts tnexts stages groups pairs dets vars texts t18.Expr) >>= fun t23 => (app 72 full [(⟨t18.Kind, t18.Name, t18.Ix, t23.1, t18.At⟩ : StmtT)]) >>= fun t28 => r5_Room_Stmts_L1 t23.2.1 t23.2.2.1 t23.2.2.2.1 t23.2.2.2.2.1 t23.2.2.2.2.2.1 t23.2.2.2.2.2.2.1 t23.2.2.2.2.2.2.2.1 t23.2.2.2.2.2.2.2.2.1 t23.2.2.2.2.2.2.2.2.2 l Kind Name Ix At_Line At_Col t28 (w64 (i + 1)) else (app 72 full [(⟨Kind, Name, Ix, [], (⟨At_Line, At_Col⟩ : PosT)⟩ : StmtT), (⟨Kind, Name, Ix, [], (⟨At_Line, At_Col⟩ : PosT)⟩ : StmtT)]) >>= fun t33 => (app 24 stmts [t33]) >>= fun t41 => (cut t33 0 (l.length : Int)) >>= fun t47 => some (t47, nodes, t41, tnexts, stages, groups, pairs, dets, vars, texts)) := by
 conv => lhs; unfold r5_Room_Stmts_L1; unfold r5_Room_Stmts_L1_run
 rfl
def r5_Room_Stmts (nodes : LL NodeT) (stmts : LL StmtT) (tnexts : LL TNextT) (stages : LL TStageT) (groups : LL GroupT) (pairs : LL ConflictT) (dets : LL DetT) (vars : LL VarT) (texts : LL ByteArray) (l : List StmtT) : Option ((List StmtT) × R9) :=
 r5_Room_Stmts_L1 nodes stmts tnexts stages groups pairs dets vars texts l 4444 ⟨#[]⟩ 0 0 0 [] 0
def r5_Room_Tables (t : TablesT) : Option ((List GroupT) × (List ConflictT) × (LL GroupT) × (LL ConflictT)) :=
 (app 48 [] t.Groups) >>= fun t13 => (app 48 t13 [(⟨⟨#[]⟩, 0, 4444, 0, 0⟩ : GroupT), (⟨⟨#[]⟩, 0, 4444, 0, 0⟩ : GroupT)]) >>= fun t17 => (app 32 [] t.Conflicts) >>= fun t20 => (app 32 t20 [(⟨4444, 0, 0, 0⟩ : ConflictT), (⟨4444, 0, 0, 0⟩ : ConflictT)]) >>= fun t24 => (app 24 [] [t17]) >>= fun t32 => (app 24 [] [t24]) >>= fun t42 => (cut t17 0 (t.Groups.length : Int)) >>= fun t49 => (cut t24 0 (t.Conflicts.length : Int)) >>= fun t54 => some (t49, t54, t32, t42)
def r5_Room_Dets (groups : LL GroupT) (pairs : LL ConflictT) (l : List DetT) : Option ((List DetT) × (LL GroupT) × (LL ConflictT) × (LL DetT)) :=
 (app 40 [] l) >>= fun t9 => (app 40 t9 [(⟨⟨#[]⟩, false, 4444, 0⟩ : DetT), (⟨⟨#[]⟩, false, 4444, 0⟩ : DetT)]) >>= fun t13 => (app 24 [] [t13]) >>= fun t21 => (cut t13 0 (l.length : Int)) >>= fun t27 => some (t27, groups, pairs, t21)
def r5_Room_Texts (groups : LL GroupT) (pairs : LL ConflictT) (dets : LL DetT) (texts : LL ByteArray) (l : List ByteArray) : Option ((List ByteArray) × (LL GroupT) × (LL ConflictT) × (LL DetT) × (LL ByteArray)) :=
 (app 16 [] l) >>= fun t7 => (app 16 t7 [⟨#[114, 111, 111, 109]⟩, ⟨#[114, 111, 111, 109]⟩]) >>= fun t9 => (app 24 texts [t9]) >>= fun t17 => (cut t9 0 (l.length : Int)) >>= fun t23 => some (t23, groups, pairs, dets, t17)
inductive r5_Room_Typed_L1_S where
 | c0 (nodes : LL NodeT) (stmts : LL StmtT) (tnexts : LL TNextT) (stages : LL TStageT) (groups : LL GroupT) (pairs : LL ConflictT) (dets : LL DetT) (vars : LL VarT) (texts : LL ByteArray) (full : List TStageT) (i : Int)
 | c1 (nodes : LL NodeT) (stmts : LL StmtT) (tnexts : LL TNextT) (stages : LL TStageT) (groups : LL GroupT) (pairs : LL ConflictT) (dets : LL DetT) (vars : LL VarT) (texts : LL ByteArray) (full : List TStageT) (i : Int) (Name2 : ByteArray) (Id : Int) (Green : Int) (Enter : List StmtT) (During : List StmtT) (Leave : List StmtT) (Nexts : List TNextT) (To : Int) (nexts : List TNextT) (j : Int)
def r5_Room_Typed_L1_run (tF : TypedT) (NameF : ByteArray) (StartF : Int) (Name1F : ByteArray) (Tables_GroupsF : List GroupT) (Tables_ConflictsF : List ConflictT) (DetsF : List DetT) (TimersF : List ByteArray) (CountersF : List ByteArray) (VarsF : List VarT) (Start1F : Int) (st : r5_Room_Typed_L1_S) : Option (ByteArray × (List GroupT) × (List ConflictT) × (List DetT) × (List ByteArray) × (List ByteArray) × (List VarT) × (List TStageT) × Int × R9) :=
 match st with
 | .c0 nodes stmts tnexts stages groups pairs dets vars texts full i => if i < (tF.Stages.length : Int) then (idx tF.Stages i) >>= fun t70 => (r5_Room_Stmts nodes stmts tnexts stages groups pairs dets vars texts t70.Enter) >>= fun t75 => (r5_Room_Stmts t75.2.1 t75.2.2.1 t75.2.2.2.1 t75.2.2.2.2.1 t75.2.2.2.2.2.1 t75.2.2.2.2.2.2.1 t75.2.2.2.2.2.2.2.1 t75.2.2.2.2.2.2.2.2.1 t75.2.2.2.2.2.2.2.2.2 t70.During) >>= fun t80 => (r5_Room_Stmts t80.2.1 t80.2.2.1 t80.2.2.2.1 t80.2.2.2.2.1 t80.2.2.2.2.2.1 t80.2.2.2.2.2.2.1 t80.2.2.2.2.2.2.2.1 t80.2.2.2.2.2.2.2.2.1 t80.2.2.2.2.2.2.2.2.2 t70.Leave) >>= fun t85 => r5_Room_Typed_L1_run tF NameF StartF Name1F Tables_GroupsF Tables_ConflictsF DetsF TimersF CountersF VarsF Start1F (.c1 t85.2.1 t85.2.2.1 t85.2.2.2.1 t85.2.2.2.2.1 t85.2.2.2.2.2.1 t85.2.2.2.2.2.2.1 t85.2.2.2.2.2.2.2.1 t85.2.2.2.2.2.2.2.2.1 t85.2.2.2.2.2.2.2.2.2 full i t70.Name t70.Id t70.Green t75.1 t80.1 t85.1 t70.Nexts 4444 [] 0) else (app 128 full [(⟨⟨#[]⟩, 4444, 0, [], [], [], []⟩ : TStageT), (⟨⟨#[]⟩, 4444, 0, [], [], [], []⟩ : TStageT)]) >>= fun t143 => (app 24 stages [t143]) >>= fun t151 => (cut t143 0 (tF.Stages.length : Int)) >>= fun t158 => some (Name1F, Tables_GroupsF, Tables_ConflictsF, DetsF, TimersF, CountersF, VarsF, t158, Start1F, nodes, stmts, tnexts, t151, groups, pairs, dets, vars, texts)
 | .c1 nodes stmts tnexts stages groups pairs dets vars texts full i Name2 Id Green Enter During Leave Nexts To nexts j => if j < (Nexts.length : Int) then (idx Nexts j) >>= fun t99 => (idx Nexts j) >>= fun t106 => (r5_Room_Nodes nodes stmts tnexts stages groups pairs dets vars texts t106.When) >>= fun t109 => (app 32 nexts [(⟨t99.To, t109.1⟩ : TNextT)]) >>= fun t112 => r5_Room_Typed_L1_run tF NameF StartF Name1F Tables_GroupsF Tables_ConflictsF DetsF TimersF CountersF VarsF Start1F (.c1 t109.2.1 t109.2.2.1 t109.2.2.2.1 t109.2.2.2.2.1 t109.2.2.2.2.2.1 t109.2.2.2.2.2.2.1 t109.2.2.2.2.2.2.2.1 t109.2.2.2.2.2.2.2.2.1 t109.2.2.2.2.2.2.2.2.2 full i Name2 Id Green Enter During Leave Nexts To t112 (w64 (j + 1))) else (app 32 nexts [(⟨To, []⟩ : TNextT), (⟨To, []⟩ : TNextT)]) >>= fun t117 => (app 24 tnexts [t117]) >>= fun t125 => (cut t117 0 (w64 ((t117.length : Int) - 2))) >>= fun t132 => (app 128 full [(⟨Name2, Id, Green, Enter, During, Leave, t132⟩ : TStageT)]) >>= fun t137 => r5_Room_Typed_L1_run tF NameF StartF Name1F Tables_GroupsF Tables_ConflictsF DetsF TimersF CountersF VarsF Start1F (.c0 nodes stmts t125 stages groups pairs dets vars texts t137 (w64 (i + 1)))
  partial_fixpoint
def r5_Room_Typed_L1 (nodes : LL NodeT) (stmts : LL StmtT) (tnexts : LL TNextT) (stages : LL TStageT) (groups : LL GroupT) (pairs : LL ConflictT) (dets : LL DetT) (vars : LL VarT) (texts : LL ByteArray) (tF : TypedT) (NameF : ByteArray) (StartF : Int) (Name1F : ByteArray) (Tables_GroupsF : List GroupT) (Tables_ConflictsF : List ConflictT) (DetsF : List DetT) (TimersF : List ByteArray) (CountersF : List ByteArray) (VarsF : List VarT) (Start1F : Int) (full : List TStageT) (i : Int) : Option (ByteArray × (List GroupT) × (List ConflictT) × (List DetT) × (List ByteArray) × (List ByteArray) × (List VarT) × (List TStageT) × Int × R9) := r5_Room_Typed_L1_run tF NameF StartF Name1F Tables_GroupsF Tables_ConflictsF DetsF TimersF CountersF VarsF Start1F (.c0 nodes stmts tnexts stages groups pairs dets vars texts full i)
def r5_Room_Typed_L2 (nodes : LL NodeT) (stmts : LL StmtT) (tnexts : LL TNextT) (stages : LL TStageT) (groups : LL GroupT) (pairs : LL ConflictT) (dets : LL DetT) (vars : LL VarT) (texts : LL ByteArray) (tF : TypedT) (NameF : ByteArray) (StartF : Int) (Name1F : ByteArray) (Tables_GroupsF : List GroupT) (Tables_ConflictsF : List ConflictT) (DetsF : List DetT) (TimersF : List ByteArray) (CountersF : List ByteArray) (VarsF : List VarT) (Start1F : Int) (full : List TStageT) (i : Int) (Name2 : ByteArray) (Id : Int) (Green : Int) (Enter : List StmtT) (During : List StmtT) (Leave : List StmtT) (Nexts : List TNextT) (To : Int) (nexts : List TNextT) (j : Int) : Option (ByteArray × (List GroupT) × (List ConflictT) × (List DetT) × (List ByteArray) × (List ByteArray) × (List VarT) × (List TStageT) × Int × R9) := r5_Room_Typed_L1_run tF NameF StartF Name1F Tables_GroupsF Tables_ConflictsF DetsF TimersF CountersF VarsF Start1F (.c1 nodes stmts tnexts stages groups pairs dets vars texts full i Name2 Id Green Enter During Leave Nexts To nexts j)
theorem r5_Room_Typed_L1_eq (nodes : LL NodeT) (stmts : LL StmtT) (tnexts : LL TNextT) (stages : LL TStageT) (groups : LL GroupT) (pairs : LL ConflictT) (dets : LL DetT) (vars : LL VarT) (texts : LL ByteArray) (tF : TypedT) (NameF : ByteArray) (StartF : Int) (Name1F : ByteArray) (Tables_GroupsF : List GroupT) (Tables_ConflictsF : List ConflictT) (DetsF : List DetT) (TimersF : List ByteArray) (CountersF : List ByteArray) (VarsF : List VarT) (Start1F : Int) (full : List TStageT) (i : Int) : r5_Room_Typed_L1 nodes stmts tnexts stages groups pairs dets vars texts tF NameF StartF Name1F Tables_GroupsF Tables_ConflictsF DetsF TimersF CountersF VarsF Start1F full i = (if i < (tF.Stages.length : Int) then (idx tF.Stages i) >>= fun t70 => (r5_Room_Stmts nodes stmts tnexts stages groups pairs dets vars texts t70.Enter) >>= fun t75 => (r5_Room_Stmts t75.2.1 t75.2.2.1 t75.2.2.2.1 t75.2.2.2.2.1 t75.2.2.2.2.2.1 t75.2.2.2.2.2.2.1 t75.2.2.2.2.2.2.2.1 t75.2.2.2.2.2.2.2.2.1 t75.2.2.2.2.2.2.2.2.2 t70.During) >>= fun t80 => (r5_Room_Stmts t80.2.1 t80.2.2.1 t80.2.2.2.1 t80.2.2.2.2.1 t80.2.2.2.2.2.1 t80.2.2.2.2.2.2.1 t80.2.2.2.2.2.2.2.1 t80.2.2.2.2.2.2.2.2.1 t80.2.2.2.2.2.2.2.2.2 t70.Leave) >>= fun t85 => r5_Room_Typed_L2 t85.2.1 t85.2.2.1 t85.2.2.2.1 t85.2.2.2.2.1 t85.2.2.2.2.2.1 t85.2.2.2.2.2.2.1 t85.2.2.2.2.2.2.2.1 t85.2.2.2.2.2.2.2.2.1 t85.2.2.2.2.2.2.2.2.2 tF NameF StartF Name1F Tables_GroupsF Tables_ConflictsF DetsF TimersF CountersF VarsF Start1F full i t70.Name t70.Id t70.Green t75.1 t80.1 t85.1 t70.Nexts 4444 [] 0 else (app 128 full [(⟨⟨#[]⟩, 4444, 0, [], [], [], []⟩ : TStageT), (⟨⟨#[]⟩, 4444, 0, [], [], [], []⟩ : TStageT)]) >>= fun t143 => (app 24 stages [t143]) >>= fun t151 => (cut t143 0 (tF.Stages.length : Int)) >>= fun t158 => some (Name1F, Tables_GroupsF, Tables_ConflictsF, DetsF, TimersF, CountersF, VarsF, t158, Start1F, nodes, stmts, tnexts, t151, groups, pairs, dets, vars, texts)) := by
 conv => lhs; unfold r5_Room_Typed_L1; unfold r5_Room_Typed_L1_run
 rfl
theorem r5_Room_Typed_L2_eq (nodes : LL NodeT) (stmts : LL StmtT) (tnexts : LL TNextT) (stages : LL TStageT) (groups : LL GroupT) (pairs : LL ConflictT) (dets : LL DetT) (vars : LL VarT) (texts : LL ByteArray) (tF : TypedT) (NameF : ByteArray) (StartF : Int) (Name1F : ByteArray) (Tables_GroupsF : List GroupT) (Tables_ConflictsF : List ConflictT) (DetsF : List DetT) (TimersF : List ByteArray) (CountersF : List ByteArray) (VarsF : List VarT) (Start1F : Int) (full : List TStageT) (i : Int) (Name2 : ByteArray) (Id : Int) (Green : Int) (Enter : List StmtT) (During : List StmtT) (Leave : List StmtT) (Nexts : List TNextT) (To : Int) (nexts : List TNextT) (j : Int) : r5_Room_Typed_L2 nodes stmts tnexts stages groups pairs dets vars texts tF NameF StartF Name1F Tables_GroupsF Tables_ConflictsF DetsF TimersF CountersF VarsF Start1F full i Name2 Id Green Enter During Leave Nexts To nexts j = (if j < (Nexts.length : Int) then (idx Nexts j) >>= fun t99 => (idx Nexts j) >>= fun t106 => (r5_Room_Nodes nodes stmts tnexts stages groups pairs dets vars texts t106.When) >>= fun t109 => (app 32 nexts [(⟨t99.To, t109.1⟩ : TNextT)]) >>= fun t112 => r5_Room_Typed_L2 t109.2.1 t109.2.2.1 t109.2.2.2.1 t109.2.2.2.2.1 t109.2.2.2.2.2.1 t109.2.2.2.2.2.2.1 t109.2.2.2.2.2.2.2.1 t109.2.2.2.2.2.2.2.2.1 t109.2.2.2.2.2.2.2.2.2 tF NameF StartF Name1F Tables_GroupsF Tables_ConflictsF DetsF TimersF CountersF VarsF Start1F full i Name2 Id Green Enter During Leave Nexts To t112 (w64 (j + 1)) else (app 32 nexts [(⟨To, []⟩ : TNextT), (⟨To, []⟩ : TNextT)]) >>= fun t117 => (app 24 tnexts [t117]) >>= fun t125 => (cut t117 0 (w64 ((t117.length : Int) - 2))) >>= fun t132 => (app 128 full [(⟨Name2, Id, Green, Enter, During, Leave, t132⟩ : TStageT)]) >>= fun t137 => r5_Room_Typed_L1 nodes stmts t125 stages groups pairs dets vars texts tF NameF StartF Name1F Tables_GroupsF Tables_ConflictsF DetsF TimersF CountersF VarsF Start1F t137 (w64 (i + 1))) := by
 conv => lhs; unfold r5_Room_Typed_L2; unfold r5_Room_Typed_L1_run
 rfl
def r5_Room_Typed (t : TypedT) : Option (ByteArray × (List GroupT) × (List ConflictT) × (List DetT) × (List ByteArray) × (List ByteArray) × (List VarT) × (List TStageT) × Int × R9) :=
 (r5_Room_Tables t.Tables) >>= fun t22 => (r5_Room_Dets t22.2.2.1 t22.2.2.2 t.Dets) >>= fun t26 => (r5_Room_Texts t26.2.1 t26.2.2.1 t26.2.2.2 [] t.Timers) >>= fun t30 => (r5_Room_Texts t30.2.1 t30.2.2.1 t30.2.2.2.1 t30.2.2.2.2 t.Counters) >>= fun t34 => (app 24 [] t.Vars) >>= fun t39 => (app 24 t39 [(⟨⟨#[]⟩, 4444⟩ : VarT), (⟨⟨#[]⟩, 4444⟩ : VarT)]) >>= fun t43 => (app 24 [] [t43]) >>= fun t51 => (cut t43 0 (t.Vars.length : Int)) >>= fun t58 => r5_Room_Typed_L1 [] [] [] [] t34.2.1 t34.2.2.1 t34.2.2.2.1 t51 t34.2.2.2.2 t ⟨#[]⟩ 0 t.Name t22.1 t22.2.1 t26.1 t30.1 t34.1 t58 t.Start [] 0
def c_in (n_ : Int) (lo : Int) (hi : Int) : Option Bool :=
 if n_ ≥ lo then some (decide (n_ ≤ hi)) else some false
inductive c_Grid_L2_S where
 | c0 (a : Int) (b : Int) (t46 : Int)
 | c1 (c : ConflictT) (t46 : Int)
def c_Grid_L2_run (tF : TablesT) (t44F : List ConflictT) (t45F : Int) (st : c_Grid_L2_S) : Option Bool :=
 match st with
 | .c0 a b t46 => if t46 < t45F then (idx t44F t46) >>= fun t48 => (if t48.A < 0 then some false else (if t48.B ≤ t48.A then some false else (if t48.B ≥ (tF.Groups.length : Int) then some false else (c_in t48.AB 0 3600) >>= fun t71 => (if t71 = true then (c_in t48.BA 0 3600) >>= fun t77 => (if t77 = true then (if t48.A < a then some false else (if t48.A = a then (if t48.B ≤ b then some false else c_Grid_L2_run tF t44F t45F (.c1 t48 t46)) else c_Grid_L2_run tF t44F t45F (.c1 t48 t46))) else some false) else some false)))) else some true
 | .c1 c t46 => c_Grid_L2_run tF t44F t45F (.c0 c.A c.B (w64 (t46 + 1)))
  partial_fixpoint
def c_Grid_L2 (tF : TablesT) (a : Int) (b : Int) (t44F : List ConflictT) (t45F : Int) (t46 : Int) : Option Bool := c_Grid_L2_run tF t44F t45F (.c0 a b t46)
def c_Grid_k3 (tF : TablesT) (c : ConflictT) (t44F : List ConflictT) (t45F : Int) (t46 : Int) : Option Bool := c_Grid_L2_run tF t44F t45F (.c1 c t46)
theorem c_Grid_L2_eq (tF : TablesT) (a : Int) (b : Int) (t44F : List ConflictT) (t45F : Int) (t46 : Int) : c_Grid_L2 tF a b t44F t45F t46 = (if t46 < t45F then (idx t44F t46) >>= fun t48 => (if t48.A < 0 then some false else (if t48.B ≤ t48.A then some false else (if t48.B ≥ (tF.Groups.length : Int) then some false else (c_in t48.AB 0 3600) >>= fun t71 => (if t71 = true then (c_in t48.BA 0 3600) >>= fun t77 => (if t77 = true then (if t48.A < a then some false else (if t48.A = a then (if t48.B ≤ b then some false else c_Grid_k3 tF t48 t44F t45F t46) else c_Grid_k3 tF t48 t44F t45F t46)) else some false) else some false)))) else some true) := by
 conv => lhs; unfold c_Grid_L2; unfold c_Grid_L2_run
 rfl
theorem c_Grid_k3_eq (tF : TablesT) (c : ConflictT) (t44F : List ConflictT) (t45F : Int) (t46 : Int) : c_Grid_k3 tF c t44F t45F t46 = c_Grid_L2 tF c.A c.B t44F t45F (w64 (t46 + 1)) := by
 conv => lhs; unfold c_Grid_k3; unfold c_Grid_L2_run
 rfl
def c_Grid_L1 (t : TablesT) (t14 : List GroupT) (t15 : Int) (t16 : Int) : Option Bool :=
 if t16 < t15 then (idx t14 t16) >>= fun t18 => (c_in t18.Sort_ 1 2) >>= fun t22 => (if t22 = true then (c_in t18.Min 1 3600) >>= fun t27 => (if t27 = true then (c_in t18.Amber 0 60) >>= fun t33 => (if t33 = true then (c_in t18.Lead 0 60) >>= fun t39 => (if t39 = true then c_Grid_L1 t t14 t15 (w64 (t16 + 1)) else some false) else some false) else some false) else some false) else c_Grid_L2 t (-1) (-1) t.Conflicts (t.Conflicts.length : Int) 0
  partial_fixpoint
def c_Grid (t : TablesT) : Option Bool :=
 if (t.Groups.length : Int) > 64 then some false else c_Grid_L1 t t.Groups (t.Groups.length : Int) 0
def r5_within (n_ : Int) (lo : Int) (hi : Int) : Option Bool :=
 if n_ ≥ lo then some (decide (n_ ≤ hi)) else some false
inductive r5_Grid_L2_S where
 | c0 (i : Int)
 | c1 (i : Int)
def r5_Grid_L2_run (tF : TablesT) (n_F : Int) (st : r5_Grid_L2_S) : Option Bool :=
 match st with
 | .c0 i => if i < (tF.Conflicts.length : Int) then (idx tF.Conflicts i) >>= fun t56 => (if t56.A < 0 then some false else (if t56.B ≤ t56.A then some false else (if t56.B ≥ n_F then some false else (r5_within t56.AB 0 3600) >>= fun t77 => (if t77 = true then (r5_within t56.BA 0 3600) >>= fun t83 => (if t83 = true then (if i > 0 then (idx tF.Conflicts (w64 (i - 1))) >>= fun t92 => (if t56.A < t92.A then some false else (if t56.A = t92.A then (if t56.B ≤ t92.B then some false else r5_Grid_L2_run tF n_F (.c1 i)) else r5_Grid_L2_run tF n_F (.c1 i))) else r5_Grid_L2_run tF n_F (.c1 i)) else some false) else some false)))) else some true
 | .c1 i => r5_Grid_L2_run tF n_F (.c0 (w64 (i + 1)))
  partial_fixpoint
def r5_Grid_L2 (tF : TablesT) (n_F : Int) (i : Int) : Option Bool := r5_Grid_L2_run tF n_F (.c0 i)
def r5_Grid_k3 (tF : TablesT) (n_F : Int) (i : Int) : Option Bool := r5_Grid_L2_run tF n_F (.c1 i)
theorem r5_Grid_L2_eq (tF : TablesT) (n_F : Int) (i : Int) : r5_Grid_L2 tF n_F i = (if i < (tF.Conflicts.length : Int) then (idx tF.Conflicts i) >>= fun t56 => (if t56.A < 0 then some false else (if t56.B ≤ t56.A then some false else (if t56.B ≥ n_F then some false else (r5_within t56.AB 0 3600) >>= fun t77 => (if t77 = true then (r5_within t56.BA 0 3600) >>= fun t83 => (if t83 = true then (if i > 0 then (idx tF.Conflicts (w64 (i - 1))) >>= fun t92 => (if t56.A < t92.A then some false else (if t56.A = t92.A then (if t56.B ≤ t92.B then some false else r5_Grid_k3 tF n_F i) else r5_Grid_k3 tF n_F i)) else r5_Grid_k3 tF n_F i) else some false) else some false)))) else some true) := by
 conv => lhs; unfold r5_Grid_L2; unfold r5_Grid_L2_run
 rfl
theorem r5_Grid_k3_eq (tF : TablesT) (n_F : Int) (i : Int) : r5_Grid_k3 tF n_F i = r5_Grid_L2 tF n_F (w64 (i + 1)) := by
 conv => lhs; unfold r5_Grid_k3; unfold r5_Grid_L2_run
 rfl
def r5_Grid_L1 (t : TablesT) (n_ : Int) (i : Int) : Option Bool :=
 if i < n_ then (idx t.Groups i) >>= fun t22 => (r5_within t22.Sort_ 1 2) >>= fun t26 => (if t26 = true then (r5_within t22.Min 1 3600) >>= fun t31 => (if t31 = true then (r5_within t22.Amber 0 60) >>= fun t37 => (if t37 = true then (r5_within t22.Lead 0 60) >>= fun t43 => (if t43 = true then r5_Grid_L1 t n_ (w64 (i + 1)) else some false) else some false) else some false) else some false) else r5_Grid_L2 t n_ 0
  partial_fixpoint
def r5_Grid (t : TablesT) : Option Bool :=
 if (t.Groups.length : Int) > 64 then some false else r5_Grid_L1 t (t.Groups.length : Int) 0
def lex_kind_L2 (text : ByteArray) (t19 : Int) : Option Int :=
 if t19 < 18 then (idx lex_signs_tab t19) >>= fun t22 => (if t22 = text then some (w64 (60 + t19)) else lex_kind_L2 text (w64 (t19 + 1))) else some 0
  partial_fixpoint
def lex_kind_L1 (text : ByteArray) (t8 : Int) : Option Int :=
 if t8 < 41 then (idx lex_words_tab t8) >>= fun t11 => (if t11 = text then some (w64 (10 + t8)) else lex_kind_L1 text (w64 (t8 + 1))) else lex_kind_L2 text 0
  partial_fixpoint
def lex_kind (text : ByteArray) : Option Int :=
 lex_kind_L1 text 0
def lex_letter (c : Int) : Option Bool :=
 if c ≥ 97 then (if c ≤ 122 then some true else (if c ≥ 65 then some (decide (c ≤ 90)) else some false)) else (if c ≥ 65 then some (decide (c ≤ 90)) else some false)
def lex_digit (c : Int) : Option Bool :=
 if c ≥ 48 then some (decide (c ≤ 57)) else some false
def lex_inner (c : Int) : Option Bool :=
 (lex_letter c) >>= fun t4 => (if t4 = true then some true else (lex_digit c) >>= fun t7 => (if t7 = true then some true else some (decide (c = 95))))
def lex_run_L1 (s_ : ByteArray) (n_ : Int) : Option Int :=
 if n_ < (s_.size : Int) then (sidx s_ n_) >>= fun t11 => (lex_inner t11) >>= fun t12 => (if t12 = true then lex_run_L1 s_ (w64 (n_ + 1)) else some n_) else some n_
  partial_fixpoint
def lex_run (s_ : ByteArray) : Option Int :=
 lex_run_L1 s_ 0
inductive lex_digits_L1_S where
 | c0 (under : Bool) (v : Int) (i : Int)
 | c1 (under : Bool) (v : Int) (i : Int) (d : Int) (c : Int)
 | c2 (under : Bool) (v : Int) (i : Int) (d : Int) (c : Int)
 | c3 (under : Bool) (v : Int) (i : Int) (d : Int)
 | c4 (under : Bool) (v : Int) (i : Int)
def lex_digits_L1_run (s_F : ByteArray) (baseF : Int) (st : lex_digits_L1_S) : Option (Int × Bool) :=
 match st with
 | .c0 under v i => if i < (s_F.size : Int) then (sidx s_F i) >>= fun t20 => (lex_digit t20) >>= fun t23 => (if t23 = true then lex_digits_L1_run s_F baseF (.c3 under v i (w64 (IntKind.u8.wrap (t20 - 48)))) else (if t20 ≥ 97 then (if t20 ≤ 102 then lex_digits_L1_run s_F baseF (.c3 under v i (w64 ((w64 (IntKind.u8.wrap (t20 - 97))) + 10))) else lex_digits_L1_run s_F baseF (.c1 under v i 99 t20)) else lex_digits_L1_run s_F baseF (.c1 under v i 99 t20))) else some (v, !decide (s_F = (⟨#[]⟩ : ByteArray)))
 | .c1 under v i d c => if c ≥ 65 then (if c ≤ 70 then lex_digits_L1_run s_F baseF (.c3 under v i (w64 ((w64 (IntKind.u8.wrap (c - 65))) + 10))) else lex_digits_L1_run s_F baseF (.c2 under v i d c)) else lex_digits_L1_run s_F baseF (.c2 under v i d c)
 | .c2 under v i d c => if c = 95 then (if under = true then (if i > 0 then (if (w64 (i + 1)) < (s_F.size : Int) then (sidx s_F (w64 (i - 1))) >>= fun t70 => (if t70 = 95 then lex_digits_L1_run s_F baseF (.c3 true v i d) else lex_digits_L1_run s_F baseF (.c4 true v i)) else lex_digits_L1_run s_F baseF (.c3 true v i d)) else lex_digits_L1_run s_F baseF (.c3 true v i d)) else lex_digits_L1_run s_F baseF (.c3 false v i d)) else lex_digits_L1_run s_F baseF (.c3 under v i d)
 | .c3 under v i d => if d ≥ baseF then some (0, false) else lex_digits_L1_run s_F baseF (.c4 under (if 1099511627776 < (w64 ((w64 (v * baseF)) + d)) then 1099511627776 else (w64 ((w64 (v * baseF)) + d))) i)
 | .c4 under v i => lex_digits_L1_run s_F baseF (.c0 under v (w64 (i + 1)))
  partial_fixpoint
def lex_digits_L1 (s_F : ByteArray) (baseF : Int) (under : Bool) (v : Int) (i : Int) : Option (Int × Bool) := lex_digits_L1_run s_F baseF (.c0 under v i)
def lex_digits_k3 (s_F : ByteArray) (baseF : Int) (under : Bool) (v : Int) (i : Int) (d : Int) (c : Int) : Option (Int × Bool) := lex_digits_L1_run s_F baseF (.c1 under v i d c)
def lex_digits_k4 (s_F : ByteArray) (baseF : Int) (under : Bool) (v : Int) (i : Int) (d : Int) (c : Int) : Option (Int × Bool) := lex_digits_L1_run s_F baseF (.c2 under v i d c)
def lex_digits_k2 (s_F : ByteArray) (baseF : Int) (under : Bool) (v : Int) (i : Int) (d : Int) : Option (Int × Bool) := lex_digits_L1_run s_F baseF (.c3 under v i d)
def lex_digits_k5 (s_F : ByteArray) (baseF : Int) (under : Bool) (v : Int) (i : Int) : Option (Int × Bool) := lex_digits_L1_run s_F baseF (.c4 under v i)
theorem lex_digits_L1_eq (s_F : ByteArray) (baseF : Int) (under : Bool) (v : Int) (i : Int) : lex_digits_L1 s_F baseF under v i = (if i < (s_F.size : Int) then (sidx s_F i) >>= fun t20 => (lex_digit t20) >>= fun t23 => (if t23 = true then lex_digits_k2 s_F baseF under v i (w64 (IntKind.u8.wrap (t20 - 48))) else (if t20 ≥ 97 then (if t20 ≤ 102 then lex_digits_k2 s_F baseF under v i (w64 ((w64 (IntKind.u8.wrap (t20 - 97))) + 10)) else lex_digits_k3 s_F baseF under v i 99 t20) else lex_digits_k3 s_F baseF under v i 99 t20)) else some (v, !decide (s_F = (⟨#[]⟩ : ByteArray)))) := by
 conv => lhs; unfold lex_digits_L1; unfold lex_digits_L1_run
 rfl
theorem lex_digits_k3_eq (s_F : ByteArray) (baseF : Int) (under : Bool) (v : Int) (i : Int) (d : Int) (c : Int) : lex_digits_k3 s_F baseF under v i d c = (if c ≥ 65 then (if c ≤ 70 then lex_digits_k2 s_F baseF under v i (w64 ((w64 (IntKind.u8.wrap (c - 65))) + 10)) else lex_digits_k4 s_F baseF under v i d c) else lex_digits_k4 s_F baseF under v i d c) := by
 conv => lhs; unfold lex_digits_k3; unfold lex_digits_L1_run
 rfl
theorem lex_digits_k4_eq (s_F : ByteArray) (baseF : Int) (under : Bool) (v : Int) (i : Int) (d : Int) (c : Int) : lex_digits_k4 s_F baseF under v i d c = (if c = 95 then (if under = true then (if i > 0 then (if (w64 (i + 1)) < (s_F.size : Int) then (sidx s_F (w64 (i - 1))) >>= fun t70 => (if t70 = 95 then lex_digits_k2 s_F baseF true v i d else lex_digits_k5 s_F baseF true v i) else lex_digits_k2 s_F baseF true v i d) else lex_digits_k2 s_F baseF true v i d) else lex_digits_k2 s_F baseF false v i d) else lex_digits_k2 s_F baseF under v i d) := by
 conv => lhs; unfold lex_digits_k4; unfold lex_digits_L1_run
 rfl
theorem lex_digits_k2_eq (s_F : ByteArray) (baseF : Int) (under : Bool) (v : Int) (i : Int) (d : Int) : lex_digits_k2 s_F baseF under v i d = (if d ≥ baseF then some (0, false) else lex_digits_k5 s_F baseF under (if 1099511627776 < (w64 ((w64 (v * baseF)) + d)) then 1099511627776 else (w64 ((w64 (v * baseF)) + d))) i) := by
 conv => lhs; unfold lex_digits_k2; unfold lex_digits_L1_run
 rfl
theorem lex_digits_k5_eq (s_F : ByteArray) (baseF : Int) (under : Bool) (v : Int) (i : Int) : lex_digits_k5 s_F baseF under v i = lex_digits_L1 s_F baseF under v (w64 (i + 1)) := by
 conv => lhs; unfold lex_digits_k5; unfold lex_digits_L1_run
 rfl
def lex_digits (s_ : ByteArray) (base : Int) (under : Bool) : Option (Int × Bool) :=
 lex_digits_L1 s_ base under 0 0
def sl_HasPrefix (s_ : ByteArray) (prefix_ : ByteArray) : Option Bool :=
 if (s_.size : Int) ≥ (prefix_.size : Int) then (scut s_ 0 (prefix_.size : Int)) >>= fun t14 => some (decide (t14 = prefix_)) else some false
def sl_CutPrefix (s_ : ByteArray) (prefix_ : ByteArray) : Option (ByteArray × Bool) :=
 (sl_HasPrefix s_ prefix_) >>= fun t8 => (if t8 = true then (scut s_ (prefix_.size : Int) s_.size) >>= fun t14 => some (t14, true) else some (s_, false))
def strings_CutPrefix (s_ : ByteArray) (prefix_ : ByteArray) : Option (ByteArray × Bool) :=
 (sl_CutPrefix s_ prefix_) >>= fun t8 => some (t8.1, t8.2)
def ba_IndexByteString (a0 : ByteArray) (a1 : Int) : Option Int := indexByteS a0 a1
def sl_IndexByte (s_ : ByteArray) (c : Int) : Option Int :=
 (ba_IndexByteString s_ c) >>= fun t7 => some t7
def sl_Index (s_ : ByteArray) (substr : ByteArray) : Option Int :=
 if (substr.size : Int) = 0 then some 0 else (if substr = s_ then some 0 else (if (substr.size : Int) = 1 then (sidx substr 0) >>= fun t29 => (sl_IndexByte s_ t29) >>= fun t30 => some t30 else (if (substr.size : Int) ≥ (s_.size : Int) then some (-1) else none)))
def sl_Cut (s_ : ByteArray) (sep : ByteArray) : Option (ByteArray × ByteArray × Bool) :=
 (sl_Index s_ sep) >>= fun t10 => (if t10 ≥ 0 then (scut s_ 0 t10) >>= fun t15 => (scut s_ (w64 (t10 + (sep.size : Int))) s_.size) >>= fun t21 => some (t15, t21, true) else some (s_, ⟨#[]⟩, false))
def strings_Cut (s_ : ByteArray) (sep : ByteArray) : Option (ByteArray × ByteArray × Bool) :=
 (sl_Cut s_ sep) >>= fun t9 => some (t9.1, t9.2.1, t9.2.2)
inductive lex_duration_L1_S where
 | c0 (s_ : ByteArray) (v : Int) (any : Bool) (t16 : Int)
 | c1 (s_ : ByteArray) (v : Int) (any : Bool) (u : Anon_unit_worthT) (head : ByteArray) (rest : ByteArray) (ok : Bool) (t16 : Int)
 | c2 (v : Int) (u : Anon_unit_worthT) (rest : ByteArray) (ok : Bool) (n_ : Int) (t16 : Int)
 | c3 (s_ : ByteArray) (v : Int) (any : Bool) (t16 : Int)
def lex_duration_L1_run (e0_unitF : ByteArray) (e0_worthF : Int) (e1_unitF : ByteArray) (e1_worthF : Int) (e2_unitF : ByteArray) (e2_worthF : Int) (st : lex_duration_L1_S) : Option (Int × Bool) :=
 match st with
 | .c0 s_ v any t16 => if t16 < 3 then (A3.get (⟨(⟨e0_unitF, e0_worthF⟩ : Anon_unit_worthT), (⟨e1_unitF, e1_worthF⟩ : Anon_unit_worthT), (⟨e2_unitF, e2_worthF⟩ : Anon_unit_worthT)⟩ : (A3 Anon_unit_worthT)) t16) >>= fun t18 => (strings_Cut s_ t18.unit) >>= fun t23 => (if t23.2.2 = true then lex_duration_L1_run e0_unitF e0_worthF e1_unitF e1_worthF e2_unitF e2_worthF (.c1 s_ v any t18 t23.1 t23.2.1 true t16) else lex_duration_L1_run e0_unitF e0_worthF e1_unitF e1_worthF e2_unitF e2_worthF (.c1 s_ v any t18 t23.1 t23.2.1 false t16)) else (if any = true then some (v, decide (s_ = (⟨#[]⟩ : ByteArray))) else some (v, false))
 | .c1 s_ v any u head rest ok t16 => if (!ok) = true then lex_duration_L1_run e0_unitF e0_worthF e1_unitF e1_worthF e2_unitF e2_worthF (.c3 s_ v any t16) else (lex_digits head 10 false) >>= fun t31 => (if t31.2 = true then lex_duration_L1_run e0_unitF e0_worthF e1_unitF e1_worthF e2_unitF e2_worthF (.c2 v u rest true t31.1 t16) else lex_duration_L1_run e0_unitF e0_worthF e1_unitF e1_worthF e2_unitF e2_worthF (.c2 v u rest false t31.1 t16))
 | .c2 v u rest ok n_ t16 => if (!ok) = true then some (0, false) else lex_duration_L1_run e0_unitF e0_worthF e1_unitF e1_worthF e2_unitF e2_worthF (.c3 rest (w64 (v + (w64 (n_ * u.worth)))) true t16)
 | .c3 s_ v any t16 => lex_duration_L1_run e0_unitF e0_worthF e1_unitF e1_worthF e2_unitF e2_worthF (.c0 s_ v any (w64 (t16 + 1)))
  partial_fixpoint
def lex_duration_L1 (s_ : ByteArray) (v : Int) (any : Bool) (e0_unitF : ByteArray) (e0_worthF : Int) (e1_unitF : ByteArray) (e1_worthF : Int) (e2_unitF : ByteArray) (e2_worthF : Int) (t16 : Int) : Option (Int × Bool) := lex_duration_L1_run e0_unitF e0_worthF e1_unitF e1_worthF e2_unitF e2_worthF (.c0 s_ v any t16)
def lex_duration_k2 (s_ : ByteArray) (v : Int) (any : Bool) (u : Anon_unit_worthT) (head : ByteArray) (rest : ByteArray) (ok : Bool) (e0_unitF : ByteArray) (e0_worthF : Int) (e1_unitF : ByteArray) (e1_worthF : Int) (e2_unitF : ByteArray) (e2_worthF : Int) (t16 : Int) : Option (Int × Bool) := lex_duration_L1_run e0_unitF e0_worthF e1_unitF e1_worthF e2_unitF e2_worthF (.c1 s_ v any u head rest ok t16)
def lex_duration_k3 (v : Int) (u : Anon_unit_worthT) (rest : ByteArray) (ok : Bool) (n_ : Int) (e0_unitF : ByteArray) (e0_worthF : Int) (e1_unitF : ByteArray) (e1_worthF : Int) (e2_unitF : ByteArray) (e2_worthF : Int) (t16 : Int) : Option (Int × Bool) := lex_duration_L1_run e0_unitF e0_worthF e1_unitF e1_worthF e2_unitF e2_worthF (.c2 v u rest ok n_ t16)
def lex_duration_k4 (s_ : ByteArray) (v : Int) (any : Bool) (e0_unitF : ByteArray) (e0_worthF : Int) (e1_unitF : ByteArray) (e1_worthF : Int) (e2_unitF : ByteArray) (e2_worthF : Int) (t16 : Int) : Option (Int × Bool) := lex_duration_L1_run e0_unitF e0_worthF e1_unitF e1_worthF e2_unitF e2_worthF (.c3 s_ v any t16)
theorem lex_duration_L1_eq (s_ : ByteArray) (v : Int) (any : Bool) (e0_unitF : ByteArray) (e0_worthF : Int) (e1_unitF : ByteArray) (e1_worthF : Int) (e2_unitF : ByteArray) (e2_worthF : Int) (t16 : Int) : lex_duration_L1 s_ v any e0_unitF e0_worthF e1_unitF e1_worthF e2_unitF e2_worthF t16 = (if t16 < 3 then (A3.get (⟨(⟨e0_unitF, e0_worthF⟩ : Anon_unit_worthT), (⟨e1_unitF, e1_worthF⟩ : Anon_unit_worthT), (⟨e2_unitF, e2_worthF⟩ : Anon_unit_worthT)⟩ : (A3 Anon_unit_worthT)) t16) >>= fun t18 => (strings_Cut s_ t18.unit) >>= fun t23 => (if t23.2.2 = true then lex_duration_k2 s_ v any t18 t23.1 t23.2.1 true e0_unitF e0_worthF e1_unitF e1_worthF e2_unitF e2_worthF t16 else lex_duration_k2 s_ v any t18 t23.1 t23.2.1 false e0_unitF e0_worthF e1_unitF e1_worthF e2_unitF e2_worthF t16) else (if any = true then some (v, decide (s_ = (⟨#[]⟩ : ByteArray))) else some (v, false))) := by
 conv => lhs; unfold lex_duration_L1; unfold lex_duration_L1_run
 rfl
theorem lex_duration_k2_eq (s_ : ByteArray) (v : Int) (any : Bool) (u : Anon_unit_worthT) (head : ByteArray) (rest : ByteArray) (ok : Bool) (e0_unitF : ByteArray) (e0_worthF : Int) (e1_unitF : ByteArray) (e1_worthF : Int) (e2_unitF : ByteArray) (e2_worthF : Int) (t16 : Int) : lex_duration_k2 s_ v any u head rest ok e0_unitF e0_worthF e1_unitF e1_worthF e2_unitF e2_worthF t16 = (if (!ok) = true then lex_duration_k4 s_ v any e0_unitF e0_worthF e1_unitF e1_worthF e2_unitF e2_worthF t16 else (lex_digits head 10 false) >>= fun t31 => (if t31.2 = true then lex_duration_k3 v u rest true t31.1 e0_unitF e0_worthF e1_unitF e1_worthF e2_unitF e2_worthF t16 else lex_duration_k3 v u rest false t31.1 e0_unitF e0_worthF e1_unitF e1_worthF e2_unitF e2_worthF t16)) := by
 conv => lhs; unfold lex_duration_k2; unfold lex_duration_L1_run
 rfl
theorem lex_duration_k3_eq (v : Int) (u : Anon_unit_worthT) (rest : ByteArray) (ok : Bool) (n_ : Int) (e0_unitF : ByteArray) (e0_worthF : Int) (e1_unitF : ByteArray) (e1_worthF : Int) (e2_unitF : ByteArray) (e2_worthF : Int) (t16 : Int) : lex_duration_k3 v u rest ok n_ e0_unitF e0_worthF e1_unitF e1_worthF e2_unitF e2_worthF t16 = (if (!ok) = true then some (0, false) else lex_duration_k4 rest (w64 (v + (w64 (n_ * u.worth)))) true e0_unitF e0_worthF e1_unitF e1_worthF e2_unitF e2_worthF t16) := by
 conv => lhs; unfold lex_duration_k3; unfold lex_duration_L1_run
 rfl
theorem lex_duration_k4_eq (s_ : ByteArray) (v : Int) (any : Bool) (e0_unitF : ByteArray) (e0_worthF : Int) (e1_unitF : ByteArray) (e1_worthF : Int) (e2_unitF : ByteArray) (e2_worthF : Int) (t16 : Int) : lex_duration_k4 s_ v any e0_unitF e0_worthF e1_unitF e1_worthF e2_unitF e2_worthF t16 = lex_duration_L1 s_ v any e0_unitF e0_worthF e1_unitF e1_worthF e2_unitF e2_worthF (w64 (t16 + 1)) := by
 conv => lhs; unfold lex_duration_k4; unfold lex_duration_L1_run
 rfl
def lex_duration (s_ : ByteArray) : Option (Int × Bool) :=
 lex_duration_L1 s_ 0 false ⟨#[104]⟩ 3600 ⟨#[109]⟩ 60 ⟨#[115]⟩ 1 0
def lex_Number_k3 (v : Int) (ok : Bool) : Option (Int × Int) :=
 if (!ok) = true then some (0, 22) else (if v > 2147483647 then some (0, 23) else some ((IntKind.i32.wrap v), 0))
def lex_Number_k2 (text : ByteArray) (hex : ByteArray) (is : Bool) : Option (Int × Int) :=
 if is = true then (lex_digits hex 16 true) >>= fun t23 => (if t23.2 = true then lex_Number_k3 t23.1 true else lex_Number_k3 t23.1 false) else (lex_duration text) >>= fun t28 => (if t28.2 = true then lex_Number_k3 t28.1 true else lex_Number_k3 t28.1 false)
def lex_Number_k1 (text : ByteArray) (v : Int) (ok : Bool) : Option (Int × Int) :=
 if (!ok) = true then (strings_CutPrefix text ⟨#[48, 120]⟩) >>= fun t17 => (if t17.2 = true then lex_Number_k2 text t17.1 true else lex_Number_k2 text t17.1 false) else lex_Number_k3 v ok
def lex_Number (text : ByteArray) : Option (Int × Int) :=
 (lex_digits text 10 true) >>= fun t10 => (if t10.2 = true then lex_Number_k1 text t10.1 true else lex_Number_k1 text t10.1 false)
def lex_KindOf_k1 (text : ByteArray) : Option Int :=
 (lex_Number text) >>= fun t30 => (if t30.2 = 0 then some 2 else some (-1))
def lex_KindOf (text : ByteArray) : Option Int :=
 (lex_kind text) >>= fun t7 => (if t7 = 0 then (if text = (⟨#[]⟩ : ByteArray) then some (-1) else (sidx text 0) >>= fun t14 => (lex_letter t14) >>= fun t15 => (if t15 = true then (if (text.size : Int) ≤ 32 then (lex_run text) >>= fun t23 => (if t23 = (text.size : Int) then some 1 else lex_KindOf_k1 text) else lex_KindOf_k1 text) else lex_KindOf_k1 text)) else some t7)
def c_things_L4 (l : List ByteArray) (t71 : List TStageT) (t72 : Int) (t73 : Int) (t10000 : TypedT) : Option ((List ByteArray) × TypedT) :=
 if t73 < t72 then (idx t71 t73) >>= fun t75 => (app 16 l [t75.Name]) >>= fun t81 => c_things_L4 t81 t71 t72 (w64 (t73 + 1)) t10000 else some (l, t10000)
  partial_fixpoint
def c_things_L3 (t : TypedT) (l : List ByteArray) (t56 : List VarT) (t57 : Int) (t58 : Int) : Option ((List ByteArray) × TypedT) :=
 if t58 < t57 then (idx t56 t58) >>= fun t60 => (app 16 l [t60.Name]) >>= fun t66 => c_things_L3 t t66 t56 t57 (w64 (t58 + 1)) else c_things_L4 l t.Stages (t.Stages.length : Int) 0 t
  partial_fixpoint
def c_things_L2 (t : TypedT) (l : List ByteArray) (t41 : List DetT) (t42 : Int) (t43 : Int) : Option ((List ByteArray) × TypedT) :=
 if t43 < t42 then (idx t41 t43) >>= fun t45 => (app 16 l [t45.Name]) >>= fun t51 => c_things_L2 t t51 t41 t42 (w64 (t43 + 1)) else c_things_L3 t l t.Vars (t.Vars.length : Int) 0
  partial_fixpoint
def c_things_L1 (t : TypedT) (l : List ByteArray) (t26 : List GroupT) (t27 : Int) (t28 : Int) : Option ((List ByteArray) × TypedT) :=
 if t28 < t27 then (idx t26 t28) >>= fun t30 => (app 16 l [t30.Name]) >>= fun t36 => c_things_L1 t t36 t26 t27 (w64 (t28 + 1)) else c_things_L2 t l t.Dets (t.Dets.length : Int) 0
  partial_fixpoint
def c_things (t : TypedT) : Option ((List ByteArray) × TypedT) :=
 (app 16 [] t.Timers) >>= fun t16 => (app 16 t16 t.Counters) >>= fun t21 => c_things_L1 t t21 t.Tables.Groups (t.Tables.Groups.length : Int) 0
inductive c_named_L1_S where
 | c0 (seen : List (ByteArray × Int)) (t12 : Int)
 | c1 (seen : List (ByteArray × Int)) (i : Int) (s_ : ByteArray) (twice : Bool) (t12 : Int)
def c_named_L1_run (tF : TypedT) (t10F : List ByteArray) (t11F : Int) (st : c_named_L1_S) : Option (Bool × TypedT) :=
 match st with
 | .c0 seen t12 => if t12 < t11F then (idx t10F t12) >>= fun t15 => (if (mget seen t15).isSome = true then c_named_L1_run tF t10F t11F (.c1 seen t12 t15 true t12) else c_named_L1_run tF t10F t11F (.c1 seen t12 t15 false t12)) else (lex_KindOf tF.Name) >>= fun t37 => some (decide (t37 = 1), tF)
 | .c1 seen i s_ twice t12 => if twice = true then some (false, tF) else (lex_KindOf s_) >>= fun t26 => (if t26 = 1 then c_named_L1_run tF t10F t11F (.c0 (mput seen s_ i) (w64 (t12 + 1))) else some (false, tF))
  partial_fixpoint
def c_named_L1 (tF : TypedT) (seen : List (ByteArray × Int)) (t10F : List ByteArray) (t11F : Int) (t12 : Int) : Option (Bool × TypedT) := c_named_L1_run tF t10F t11F (.c0 seen t12)
def c_named_k2 (tF : TypedT) (seen : List (ByteArray × Int)) (i : Int) (s_ : ByteArray) (twice : Bool) (t10F : List ByteArray) (t11F : Int) (t12 : Int) : Option (Bool × TypedT) := c_named_L1_run tF t10F t11F (.c1 seen i s_ twice t12)
theorem c_named_L1_eq (tF : TypedT) (seen : List (ByteArray × Int)) (t10F : List ByteArray) (t11F : Int) (t12 : Int) : c_named_L1 tF seen t10F t11F t12 = (if t12 < t11F then (idx t10F t12) >>= fun t15 => (if (mget seen t15).isSome = true then c_named_k2 tF seen t12 t15 true t10F t11F t12 else c_named_k2 tF seen t12 t15 false t10F t11F t12) else (lex_KindOf tF.Name) >>= fun t37 => some (decide (t37 = 1), tF)) := by
 conv => lhs; unfold c_named_L1; unfold c_named_L1_run
 rfl
theorem c_named_k2_eq (tF : TypedT) (seen : List (ByteArray × Int)) (i : Int) (s_ : ByteArray) (twice : Bool) (t10F : List ByteArray) (t11F : Int) (t12 : Int) : c_named_k2 tF seen i s_ twice t10F t11F t12 = (if twice = true then some (false, tF) else (lex_KindOf s_) >>= fun t26 => (if t26 = 1 then c_named_L1 tF (mput seen s_ i) t10F t11F (w64 (t12 + 1)) else some (false, tF))) := by
 conv => lhs; unfold c_named_k2; unfold c_named_L1_run
 rfl
def c_named (t : TypedT) : Option (Bool × TypedT) :=
 (c_things t) >>= fun t10 => c_named_L1 t10.2 [] t10.1 (t10.1.length : Int) 0
def c_nodes_L3 (n_ : Int) (t34 : List TNextT) (t35 : Int) (t36 : Int) : Option Int :=
 if t36 < t35 then (idx t34 t36) >>= fun t38 => c_nodes_L3 (w64 (n_ + (t38.When.length : Int))) t34 t35 (w64 (t36 + 1)) else some n_
  partial_fixpoint
inductive c_nodes_L1_S where
 | c0 (n_ : Int) (t17 : Int)
 | c1 (n_ : Int) (t17 : Int) (t20 : List StmtT) (t21 : Int) (t22 : Int)
def c_nodes_L1_run (s_F : TStageT) (t16F : A3 (List StmtT)) (st : c_nodes_L1_S) : Option Int :=
 match st with
 | .c0 n_ t17 => if t17 < 3 then (A3.get t16F t17) >>= fun t19 => c_nodes_L1_run s_F t16F (.c1 n_ t17 t19 (t19.length : Int) 0) else c_nodes_L3 n_ s_F.Nexts (s_F.Nexts.length : Int) 0
 | .c1 n_ t17 t20 t21 t22 => if t22 < t21 then (idx t20 t22) >>= fun t24 => c_nodes_L1_run s_F t16F (.c1 (w64 (n_ + (t24.Expr.length : Int))) t17 t20 t21 (w64 (t22 + 1))) else c_nodes_L1_run s_F t16F (.c0 n_ (w64 (t17 + 1)))
  partial_fixpoint
def c_nodes_L1 (s_F : TStageT) (n_ : Int) (t16F : A3 (List StmtT)) (t17 : Int) : Option Int := c_nodes_L1_run s_F t16F (.c0 n_ t17)
def c_nodes_L2 (s_F : TStageT) (n_ : Int) (t16F : A3 (List StmtT)) (t17 : Int) (t20 : List StmtT) (t21 : Int) (t22 : Int) : Option Int := c_nodes_L1_run s_F t16F (.c1 n_ t17 t20 t21 t22)
theorem c_nodes_L1_eq (s_F : TStageT) (n_ : Int) (t16F : A3 (List StmtT)) (t17 : Int) : c_nodes_L1 s_F n_ t16F t17 = (if t17 < 3 then (A3.get t16F t17) >>= fun t19 => c_nodes_L2 s_F n_ t16F t17 t19 (t19.length : Int) 0 else c_nodes_L3 n_ s_F.Nexts (s_F.Nexts.length : Int) 0) := by
 conv => lhs; unfold c_nodes_L1; unfold c_nodes_L1_run
 rfl
theorem c_nodes_L2_eq (s_F : TStageT) (n_ : Int) (t16F : A3 (List StmtT)) (t17 : Int) (t20 : List StmtT) (t21 : Int) (t22 : Int) : c_nodes_L2 s_F n_ t16F t17 t20 t21 t22 = (if t22 < t21 then (idx t20 t22) >>= fun t24 => c_nodes_L2 s_F (w64 (n_ + (t24.Expr.length : Int))) t16F t17 t20 t21 (w64 (t22 + 1)) else c_nodes_L1 s_F n_ t16F (w64 (t17 + 1))) := by
 conv => lhs; unfold c_nodes_L2; unfold c_nodes_L1_run
 rfl
def c_nodes (s_ : TStageT) : Option Int :=
 c_nodes_L1 s_ 0 (⟨s_.Enter, s_.During, s_.Leave⟩ : (A3 (List StmtT))) 0
def arith_Arity_k1 (op : Int) : Option Int :=
 if op ≥ 0 then (if op < 52 then (idx arith_operands_tab op) >>= fun t19 => (if t19 > 0 then (idx arith_operands_tab op) >>= fun t24 => some t24 else some (-1)) else some (-1)) else some (-1)
def arith_Arity (op : Int) : Option Int :=
 if op ≥ 1 then (if op ≤ 10 then some 0 else arith_Arity_k1 op) else arith_Arity_k1 op
def tree_Span_L1 (e : List NodeT) (wanted : Int) (j : Int) : Option Int :=
 if j ≥ 0 then (idx e j) >>= fun t23 => (arith_Arity t23.Op) >>= fun t26 => (if t26 < 0 then some (-1) else (if (w64 (wanted + (w64 (t26 - 1)))) = 0 then some j else tree_Span_L1 e (w64 (wanted + (w64 (t26 - 1)))) (w64 (j - 1)))) else some (-1)
  partial_fixpoint
def tree_Span (e : List NodeT) (i : Int) : Option Int :=
 if i < 0 then some (-1) else (if i ≥ (e.length : Int) then some (-1) else tree_Span_L1 e 1 i)
def tree_level_k1 (op : Int) : Option Int :=
 if op = 30 then some 5 else (if op = 31 then some 5 else (if op = 32 then some 6 else (if op = 33 then some 6 else (if op = 34 then some 6 else (if op = 20 then some 7 else some 8)))))
def tree_level (op : Int) : Option Int :=
 if op = 51 then some 1 else (if op = 50 then some 2 else (if op = 21 then some 3 else (if op ≥ 40 then (if op ≤ 45 then some 4 else tree_level_k1 op) else tree_level_k1 op)))
def tree_asks_k1 (op : Int) (t2 : A2 Int) : Option (A2 Int) :=
 (tree_level op) >>= fun t11 => some (⟨t11, 0⟩ : (A2 Int))
def tree_asks_k3 (t2 : A2 Int) : Option (A2 Int) :=
 some (⟨1, 1⟩ : (A2 Int))
def tree_asks_k2 (op : Int) (t2 : A2 Int) : Option (A2 Int) :=
 if op = 22 then tree_asks_k3 t2 else (if op = 35 then tree_asks_k3 t2 else (if op = 36 then tree_asks_k3 t2 else (tree_level op) >>= fun t34 => (tree_level op) >>= fun t36 => some (⟨t34, (w64 (t36 + 1))⟩ : (A2 Int))))
def tree_asks (op : Int) : Option (A2 Int) :=
 if op = 21 then tree_asks_k1 op (⟨0, 0⟩ : (A2 Int)) else (if op = 20 then tree_asks_k1 op (⟨0, 0⟩ : (A2 Int)) else (if op ≥ 40 then (if op ≤ 45 then some (⟨5, 5⟩ : (A2 Int)) else tree_asks_k2 op (⟨0, 0⟩ : (A2 Int))) else tree_asks_k2 op (⟨0, 0⟩ : (A2 Int))))
inductive tree_Nest_L1_S where
 | c0 (stack : List Tree_deepT) (t20 : Int)
 | c1 (stack : List Tree_deepT) (n_ : NodeT) (k : Int) (d : Tree_deepT) (want : A2 Int) (t20 : Int) (t38lo : Int) (t39 : Int) (t40 : Int)
 | c2 (stack : List Tree_deepT) (n_ : NodeT) (k : Int) (d : Tree_deepT) (want : A2 Int) (nest : Int) (t20 : Int) (t38lo : Int) (t39 : Int) (t40 : Int)
 | c3 (stack : List Tree_deepT) (d : Tree_deepT) (t20 : Int)
 | c4 (stack : List Tree_deepT) (d : Tree_deepT) (t20 : Int)
def tree_Nest_L1_run (t18F : List NodeT) (t19F : Int) (st : tree_Nest_L1_S) : Option Int :=
 match st with
 | .c0 stack t20 => if t20 < t19F then (idx t18F t20) >>= fun t22 => (arith_Arity t22.Op) >>= fun t26 => (tree_asks t22.Op) >>= fun t32 => (cut stack (w64 ((stack.length : Int) - t26)) stack.length) >>= fun _ => tree_Nest_L1_run t18F t19F (.c1 stack t22 t26 (⟨t22.Op, 0⟩ : Tree_deepT) t32 t20 (w64 ((stack.length : Int) - t26)) ((stack.drop (w64 ((stack.length : Int) - t26)).toNat).length : Int) 0) else (idx stack 0) >>= fun t86 => some t86.nest
 | .c1 stack n_ k d want t20 t38lo t39 t40 => if t40 < t39 then (idx (stack.drop t38lo.toNat) t40) >>= fun t43 => (tree_level t43.op) >>= fun t49 => (A2.get want t40) >>= fun t51 => (if t49 < t51 then tree_Nest_L1_run t18F t19F (.c2 stack n_ k d want (w64 (t43.nest + 1)) t20 t38lo t39 t40) else tree_Nest_L1_run t18F t19F (.c2 stack n_ k d want t43.nest t20 t38lo t39 t40)) else (cut stack 0 (w64 ((stack.length : Int) - k))) >>= fun t67 => (if n_.Op = 20 then tree_Nest_L1_run t18F t19F (.c3 t67 d t20) else (if n_.Op = 21 then tree_Nest_L1_run t18F t19F (.c3 t67 d t20) else (if n_.Op = 22 then tree_Nest_L1_run t18F t19F (.c3 t67 d t20) else (if n_.Op = 35 then tree_Nest_L1_run t18F t19F (.c3 t67 d t20) else (if n_.Op = 36 then tree_Nest_L1_run t18F t19F (.c3 t67 d t20) else tree_Nest_L1_run t18F t19F (.c4 t67 d t20))))))
 | .c2 stack n_ k d want nest t20 t38lo t39 t40 => tree_Nest_L1_run t18F t19F (.c1 stack n_ k (⟨d.op, (if nest > d.nest then nest else d.nest)⟩ : Tree_deepT) want t20 t38lo t39 (w64 (t40 + 1)))
 | .c3 stack d t20 => tree_Nest_L1_run t18F t19F (.c4 stack (⟨d.op, (w64 (d.nest + 1))⟩ : Tree_deepT) t20)
 | .c4 stack d t20 => (app 16 stack [d]) >>= fun t83 => tree_Nest_L1_run t18F t19F (.c0 t83 (w64 (t20 + 1)))
  partial_fixpoint
def tree_Nest_L1 (stack : List Tree_deepT) (t18F : List NodeT) (t19F : Int) (t20 : Int) : Option Int := tree_Nest_L1_run t18F t19F (.c0 stack t20)
def tree_Nest_L2 (stack : List Tree_deepT) (n_ : NodeT) (k : Int) (d : Tree_deepT) (want : A2 Int) (t18F : List NodeT) (t19F : Int) (t20 : Int) (t38lo : Int) (t39 : Int) (t40 : Int) : Option Int := tree_Nest_L1_run t18F t19F (.c1 stack n_ k d want t20 t38lo t39 t40)
def tree_Nest_k3 (stack : List Tree_deepT) (n_ : NodeT) (k : Int) (d : Tree_deepT) (want : A2 Int) (nest : Int) (t18F : List NodeT) (t19F : Int) (t20 : Int) (t38lo : Int) (t39 : Int) (t40 : Int) : Option Int := tree_Nest_L1_run t18F t19F (.c2 stack n_ k d want nest t20 t38lo t39 t40)
def tree_Nest_k4 (stack : List Tree_deepT) (d : Tree_deepT) (t18F : List NodeT) (t19F : Int) (t20 : Int) : Option Int := tree_Nest_L1_run t18F t19F (.c3 stack d t20)
def tree_Nest_k5 (stack : List Tree_deepT) (d : Tree_deepT) (t18F : List NodeT) (t19F : Int) (t20 : Int) : Option Int := tree_Nest_L1_run t18F t19F (.c4 stack d t20)
theorem tree_Nest_L1_eq (stack : List Tree_deepT) (t18F : List NodeT) (t19F : Int) (t20 : Int) : tree_Nest_L1 stack t18F t19F t20 = (if t20 < t19F then (idx t18F t20) >>= fun t22 => (arith_Arity t22.Op) >>= fun t26 => (tree_asks t22.Op) >>= fun t32 => (cut stack (w64 ((stack.length : Int) - t26)) stack.length) >>= fun _ => tree_Nest_L2 stack t22 t26 (⟨t22.Op, 0⟩ : Tree_deepT) t32 t18F t19F t20 (w64 ((stack.length : Int) - t26)) ((stack.drop (w64 ((stack.length : Int) - t26)).toNat).length : Int) 0 else (idx stack 0) >>= fun t86 => some t86.nest) := by
 conv => lhs; unfold tree_Nest_L1; unfold tree_Nest_L1_run
 rfl
theorem tree_Nest_L2_eq (stack : List Tree_deepT) (n_ : NodeT) (k : Int) (d : Tree_deepT) (want : A2 Int) (t18F : List NodeT) (t19F : Int) (t20 : Int) (t38lo : Int) (t39 : Int) (t40 : Int) : tree_Nest_L2 stack n_ k d want t18F t19F t20 t38lo t39 t40 = (if t40 < t39 then (idx (stack.drop t38lo.toNat) t40) >>= fun t43 => (tree_level t43.op) >>= fun t49 => (A2.get want t40) >>= fun t51 => (if t49 < t51 then tree_Nest_k3 stack n_ k d want (w64 (t43.nest + 1)) t18F t19F t20 t38lo t39 t40 else tree_Nest_k3 stack n_ k d want t43.nest t18F t19F t20 t38lo t39 t40) else (cut stack 0 (w64 ((stack.length : Int) - k))) >>= fun t67 => (if n_.Op = 20 then tree_Nest_k4 t67 d t18F t19F t20 else (if n_.Op = 21 then tree_Nest_k4 t67 d t18F t19F t20 else (if n_.Op = 22 then tree_Nest_k4 t67 d t18F t19F t20 else (if n_.Op = 35 then tree_Nest_k4 t67 d t18F t19F t20 else (if n_.Op = 36 then tree_Nest_k4 t67 d t18F t19F t20 else tree_Nest_k5 t67 d t18F t19F t20)))))) := by
 conv => lhs; unfold tree_Nest_L2; unfold tree_Nest_L1_run
 rfl
theorem tree_Nest_k3_eq (stack : List Tree_deepT) (n_ : NodeT) (k : Int) (d : Tree_deepT) (want : A2 Int) (nest : Int) (t18F : List NodeT) (t19F : Int) (t20 : Int) (t38lo : Int) (t39 : Int) (t40 : Int) : tree_Nest_k3 stack n_ k d want nest t18F t19F t20 t38lo t39 t40 = tree_Nest_L2 stack n_ k (⟨d.op, (if nest > d.nest then nest else d.nest)⟩ : Tree_deepT) want t18F t19F t20 t38lo t39 (w64 (t40 + 1)) := by
 conv => lhs; unfold tree_Nest_k3; unfold tree_Nest_L1_run
 rfl
theorem tree_Nest_k4_eq (stack : List Tree_deepT) (d : Tree_deepT) (t18F : List NodeT) (t19F : Int) (t20 : Int) : tree_Nest_k4 stack d t18F t19F t20 = tree_Nest_k5 stack (⟨d.op, (w64 (d.nest + 1))⟩ : Tree_deepT) t18F t19F t20 := by
 conv => lhs; unfold tree_Nest_k4; unfold tree_Nest_L1_run
 rfl
theorem tree_Nest_k5_eq (stack : List Tree_deepT) (d : Tree_deepT) (t18F : List NodeT) (t19F : Int) (t20 : Int) : tree_Nest_k5 stack d t18F t19F t20 = (app 16 stack [d]) >>= fun t83 => tree_Nest_L1 t83 t18F t19F (w64 (t20 + 1)) := by
 conv => lhs; unfold tree_Nest_k5; unfold tree_Nest_L1_run
 rfl
def tree_Nest (e : List NodeT) : Option Int :=
 (tree_Span e (w64 ((e.length : Int) - 1))) >>= fun t16 => (if t16 = 0 then tree_Nest_L1 [] e (e.length : Int) 0 else some (-1))
def c_place (v : Int) (n_ : Int) : Option Bool :=
 if v ≥ 0 then some (decide ((w64 v) < n_)) else some false
def c_value_k1 (t : TypedT) (n_ : NodeT) : Option (Bool × TypedT) :=
 (c_place n_.Val (t.Tables.Groups.length : Int)) >>= fun t25 => some (t25, t)
def c_value (t : TypedT) (n_ : NodeT) : Option (Bool × TypedT) :=
 if n_.Op = 1 then some (true, t) else (if n_.Op = 2 then (c_place n_.Val 2) >>= fun t13 => some (t13, t) else (if n_.Op = 5 then c_value_k1 t n_ else (if n_.Op = 6 then c_value_k1 t n_ else (if n_.Op = 7 then (c_place n_.Val (t.Vars.length : Int)) >>= fun t35 => some (t35, t) else (if n_.Op = 8 then (c_place n_.Val (t.Timers.length : Int)) >>= fun t45 => some (t45, t) else (if n_.Op = 9 then (c_place n_.Val (t.Counters.length : Int)) >>= fun t55 => some (t55, t) else (if n_.Op = 10 then (c_place n_.Val (t.Dets.length : Int)) >>= fun t65 => some (t65, t) else (if n_.Op = 3 then some (false, t) else some (decide (n_.Val = 0), t)))))))))
def c_operated_k1 (a : Int) : Option Int :=
 if a = 1 then some 1 else some 0
def c_operated_k2 (a : Int) (b : Int) : Option Int :=
 if a = b then some 2 else some 0
def c_operated_k3 (a : Int) (b : Int) : Option Int :=
 if a = 1 then (if b = 1 then some 2 else some 0) else some 0
def c_operated_k4 (a : Int) (b : Int) : Option Int :=
 if a = 2 then (if b = 2 then some 2 else some 0) else some 0
def c_operated (op : Int) (a : Int) (b : Int) : Option Int :=
 if op = 20 then c_operated_k1 a else (if op = 22 then c_operated_k1 a else (if op = 21 then (if a = 2 then some 2 else some 0) else (if op = 40 then c_operated_k2 a b else (if op = 41 then c_operated_k2 a b else (if op = 42 then c_operated_k3 a b else (if op = 43 then c_operated_k3 a b else (if op = 44 then c_operated_k3 a b else (if op = 45 then c_operated_k3 a b else (if op = 50 then c_operated_k4 a b else (if op = 51 then c_operated_k4 a b else (if a = 1 then (if b = 1 then some 1 else some 0) else some 0)))))))))))
def c_pushed_k1 (stack : List Int) (op : Int) (a : Int) (b : Int) (n_ : Int) : Option ((List Int) × Bool) :=
 (c_operated op a b) >>= fun t36 => (cut stack 0 n_) >>= fun t39 => (app 8 t39 [t36]) >>= fun t42 => some (t42, !decide (t36 = 0))
def c_pushed (stack : List Int) (op : Int) : Option ((List Int) × Bool) :=
 if op < 30 then (idx stack (w64 ((stack.length : Int) - 1))) >>= fun t17 => c_pushed_k1 stack op t17 0 (w64 ((stack.length : Int) - 1)) else (idx stack (w64 ((stack.length : Int) - 2))) >>= fun t24 => (idx stack (w64 ((stack.length : Int) - 1))) >>= fun t29 => c_pushed_k1 stack op t24 t29 (w64 ((stack.length : Int) - 2))
inductive c_SoundExpr_L1_S where
 | c0 (t : TypedT) (stack : List Int) (t35 : Int)
 | c1 (t : TypedT) (stack : List Int) (t35 : Int)
 | c2 (t : TypedT) (stack : List Int) (t35 : Int)
 | c3 (t : TypedT) (stack : List Int) (ok : Bool) (t35 : Int)
 | c4 (t : TypedT) (stack : List Int) (t35 : Int)
def c_SoundExpr_L1_run (typF : Int) (t33F : List NodeT) (t34F : Int) (st : c_SoundExpr_L1_S) : Option Bool :=
 match st with
 | .c0 t stack t35 => if t35 < t34F then (idx t33F t35) >>= fun t37 => (if t37.Name = (⟨#[]⟩ : ByteArray) then (if (!(decide (t37.At.Line = 0) && (decide (t37.At.Col = 0) && true))) = true then some false else (c_value t t37) >>= fun t50 => (if (!t50.1) = true then some false else (if t37.Op = 1 then c_SoundExpr_L1_run typF t33F t34F (.c1 t50.2 stack t35) else (if t37.Op = 4 then c_SoundExpr_L1_run typF t33F t34F (.c1 t50.2 stack t35) else (if t37.Op = 7 then c_SoundExpr_L1_run typF t33F t34F (.c1 t50.2 stack t35) else (if t37.Op = 8 then c_SoundExpr_L1_run typF t33F t34F (.c1 t50.2 stack t35) else (if t37.Op = 9 then c_SoundExpr_L1_run typF t33F t34F (.c1 t50.2 stack t35) else (if t37.Op = 2 then c_SoundExpr_L1_run typF t33F t34F (.c2 t50.2 stack t35) else (if t37.Op = 5 then c_SoundExpr_L1_run typF t33F t34F (.c2 t50.2 stack t35) else (if t37.Op = 6 then c_SoundExpr_L1_run typF t33F t34F (.c2 t50.2 stack t35) else (if t37.Op = 10 then c_SoundExpr_L1_run typF t33F t34F (.c2 t50.2 stack t35) else (c_pushed stack t37.Op) >>= fun t59 => (if t59.2 = true then c_SoundExpr_L1_run typF t33F t34F (.c3 t50.2 t59.1 true t35) else c_SoundExpr_L1_run typF t33F t34F (.c3 t50.2 t59.1 false t35))))))))))))) else some false) else (idx stack 0) >>= fun t83 => some (decide (t83 = typF))
 | .c1 t stack t35 => (app 8 stack [1]) >>= fun t72 => c_SoundExpr_L1_run typF t33F t34F (.c4 t t72 t35)
 | .c2 t stack t35 => (app 8 stack [2]) >>= fun t80 => c_SoundExpr_L1_run typF t33F t34F (.c4 t t80 t35)
 | .c3 t stack ok t35 => if (!ok) = true then some false else c_SoundExpr_L1_run typF t33F t34F (.c4 t stack t35)
 | .c4 t stack t35 => c_SoundExpr_L1_run typF t33F t34F (.c0 t stack (w64 (t35 + 1)))
  partial_fixpoint
def c_SoundExpr_L1 (typF : Int) (t : TypedT) (stack : List Int) (t33F : List NodeT) (t34F : Int) (t35 : Int) : Option Bool := c_SoundExpr_L1_run typF t33F t34F (.c0 t stack t35)
def c_SoundExpr_k2 (typF : Int) (t : TypedT) (stack : List Int) (t33F : List NodeT) (t34F : Int) (t35 : Int) : Option Bool := c_SoundExpr_L1_run typF t33F t34F (.c1 t stack t35)
def c_SoundExpr_k3 (typF : Int) (t : TypedT) (stack : List Int) (t33F : List NodeT) (t34F : Int) (t35 : Int) : Option Bool := c_SoundExpr_L1_run typF t33F t34F (.c2 t stack t35)
def c_SoundExpr_k4 (typF : Int) (t : TypedT) (stack : List Int) (ok : Bool) (t33F : List NodeT) (t34F : Int) (t35 : Int) : Option Bool := c_SoundExpr_L1_run typF t33F t34F (.c3 t stack ok t35)
def c_SoundExpr_k5 (typF : Int) (t : TypedT) (stack : List Int) (t33F : List NodeT) (t34F : Int) (t35 : Int) : Option Bool := c_SoundExpr_L1_run typF t33F t34F (.c4 t stack t35)
theorem c_SoundExpr_L1_eq (typF : Int) (t : TypedT) (stack : List Int) (t33F : List NodeT) (t34F : Int) (t35 : Int) : c_SoundExpr_L1 typF t stack t33F t34F t35 = (if t35 < t34F then (idx t33F t35) >>= fun t37 => (if t37.Name = (⟨#[]⟩ : ByteArray) then (if (!(decide (t37.At.Line = 0) && (decide (t37.At.Col = 0) && true))) = true then some false else (c_value t t37) >>= fun t50 => (if (!t50.1) = true then some false else (if t37.Op = 1 then c_SoundExpr_k2 typF t50.2 stack t33F t34F t35 else (if t37.Op = 4 then c_SoundExpr_k2 typF t50.2 stack t33F t34F t35 else (if t37.Op = 7 then c_SoundExpr_k2 typF t50.2 stack t33F t34F t35 else (if t37.Op = 8 then c_SoundExpr_k2 typF t50.2 stack t33F t34F t35 else (if t37.Op = 9 then c_SoundExpr_k2 typF t50.2 stack t33F t34F t35 else (if t37.Op = 2 then c_SoundExpr_k3 typF t50.2 stack t33F t34F t35 else (if t37.Op = 5 then c_SoundExpr_k3 typF t50.2 stack t33F t34F t35 else (if t37.Op = 6 then c_SoundExpr_k3 typF t50.2 stack t33F t34F t35 else (if t37.Op = 10 then c_SoundExpr_k3 typF t50.2 stack t33F t34F t35 else (c_pushed stack t37.Op) >>= fun t59 => (if t59.2 = true then c_SoundExpr_k4 typF t50.2 t59.1 true t33F t34F t35 else c_SoundExpr_k4 typF t50.2 t59.1 false t33F t34F t35)))))))))))) else some false) else (idx stack 0) >>= fun t83 => some (decide (t83 = typF))) := by
 conv => lhs; unfold c_SoundExpr_L1; unfold c_SoundExpr_L1_run
 rfl
theorem c_SoundExpr_k2_eq (typF : Int) (t : TypedT) (stack : List Int) (t33F : List NodeT) (t34F : Int) (t35 : Int) : c_SoundExpr_k2 typF t stack t33F t34F t35 = (app 8 stack [1]) >>= fun t72 => c_SoundExpr_k5 typF t t72 t33F t34F t35 := by
 conv => lhs; unfold c_SoundExpr_k2; unfold c_SoundExpr_L1_run
 rfl
theorem c_SoundExpr_k3_eq (typF : Int) (t : TypedT) (stack : List Int) (t33F : List NodeT) (t34F : Int) (t35 : Int) : c_SoundExpr_k3 typF t stack t33F t34F t35 = (app 8 stack [2]) >>= fun t80 => c_SoundExpr_k5 typF t t80 t33F t34F t35 := by
 conv => lhs; unfold c_SoundExpr_k3; unfold c_SoundExpr_L1_run
 rfl
theorem c_SoundExpr_k4_eq (typF : Int) (t : TypedT) (stack : List Int) (ok : Bool) (t33F : List NodeT) (t34F : Int) (t35 : Int) : c_SoundExpr_k4 typF t stack ok t33F t34F t35 = (if (!ok) = true then some false else c_SoundExpr_k5 typF t stack t33F t34F t35) := by
 conv => lhs; unfold c_SoundExpr_k4; unfold c_SoundExpr_L1_run
 rfl
theorem c_SoundExpr_k5_eq (typF : Int) (t : TypedT) (stack : List Int) (t33F : List NodeT) (t34F : Int) (t35 : Int) : c_SoundExpr_k5 typF t stack t33F t34F t35 = c_SoundExpr_L1 typF t stack t33F t34F (w64 (t35 + 1)) := by
 conv => lhs; unfold c_SoundExpr_k5; unfold c_SoundExpr_L1_run
 rfl
def c_SoundExpr (t : TypedT) (e : List NodeT) (typ : Int) : Option Bool :=
 (c_in typ 1 2) >>= fun t12 => (if t12 = true then (c_in (e.length : Int) 1 256) >>= fun t17 => (if t17 = true then (tree_Span e (w64 ((e.length : Int) - 1))) >>= fun t25 => (if t25 = 0 then (tree_Nest e) >>= fun t30 => (if t30 > 64 then some false else c_SoundExpr_L1 typ t [] e (e.length : Int) 0) else some false) else some false) else some false)
def c_soundStmt_k1 (t : TypedT) (s_ : StmtT) : Option (Bool × TypedT) :=
 some (decide (s_.Ix < (t.Timers.length : Int)), t)
def c_soundStmt_k2 (t : TypedT) (s_ : StmtT) : Option (Bool × TypedT) :=
 some (decide (s_.Ix < (t.Counters.length : Int)), t)
def c_soundStmt_k3 (s_ : StmtT) (t10000 : TypedT) : Option (Bool × TypedT) :=
 some (decide (s_.Ix = 0), t10000)
def c_soundStmt (t : TypedT) (s_ : StmtT) : Option (Bool × TypedT) :=
 if s_.Name = (⟨#[]⟩ : ByteArray) then (if (!(decide (s_.At.Line = 0) && (decide (s_.At.Col = 0) && true))) = true then some (false, t) else (if s_.Ix < 0 then some (false, t) else (if s_.Kind = 1 then (if s_.Ix < (t.Vars.length : Int) then (c_SoundExpr t s_.Expr 1) >>= fun t37 => some (t37, t) else some (false, t)) else (if s_.Kind = 7 then (if s_.Ix = 0 then (c_SoundExpr t s_.Expr 2) >>= fun t50 => some (t50, t) else some (false, t)) else (if (s_.Expr.length : Int) = 0 then (if s_.Kind = 2 then c_soundStmt_k1 t s_ else (if s_.Kind = 3 then c_soundStmt_k1 t s_ else (if s_.Kind = 4 then c_soundStmt_k1 t s_ else (if s_.Kind = 5 then c_soundStmt_k2 t s_ else (if s_.Kind = 10 then c_soundStmt_k2 t s_ else (if s_.Kind = 6 then some (decide (s_.Ix < (t.Dets.length : Int)), t) else (if s_.Kind = 8 then c_soundStmt_k3 s_ t else (if s_.Kind = 9 then c_soundStmt_k3 s_ t else some (false, t))))))))) else some (false, t)))))) else some (false, t)
inductive c_soundList_L1_S where
 | c0 (t : TypedT) (open_ : List Bool) (t11 : Int)
 | c1 (t : TypedT) (open_ : List Bool) (t11 : Int)
def c_soundList_L1_run (t9F : List StmtT) (t10F : Int) (st : c_soundList_L1_S) : Option (Bool × TypedT) :=
 match st with
 | .c0 t open_ t11 => if t11 < t10F then (idx t9F t11) >>= fun t13 => (c_soundStmt t t13) >>= fun t17 => (if (!t17.1) = true then some (false, t17.2) else (if t13.Kind = 7 then (if (open_.length : Int) = 16 then some (false, t17.2) else (app 1 open_ [false]) >>= fun t29 => c_soundList_L1_run t9F t10F (.c1 t17.2 t29 t11)) else (if t13.Kind = 8 then (if (open_.length : Int) = 0 then some (false, t17.2) else (idx open_ (w64 ((open_.length : Int) - 1))) >>= fun t38 => (if t38 = true then some (false, t17.2) else (idx open_ (w64 ((open_.length : Int) - 1))) >>= fun t44 => (some (open_.set ((w64 ((open_.length : Int) - 1)).toNat) true)) >>= fun l6773 => c_soundList_L1_run t9F t10F (.c1 t17.2 l6773 t11))) else (if t13.Kind = 9 then (if (open_.length : Int) = 0 then some (false, t17.2) else (cut open_ 0 (w64 ((open_.length : Int) - 1))) >>= fun t52 => c_soundList_L1_run t9F t10F (.c1 t17.2 t52 t11)) else c_soundList_L1_run t9F t10F (.c1 t17.2 open_ t11))))) else some (decide ((open_.length : Int) = 0), t)
 | .c1 t open_ t11 => c_soundList_L1_run t9F t10F (.c0 t open_ (w64 (t11 + 1)))
  partial_fixpoint
def c_soundList_L1 (t : TypedT) (open_ : List Bool) (t9F : List StmtT) (t10F : Int) (t11 : Int) : Option (Bool × TypedT) := c_soundList_L1_run t9F t10F (.c0 t open_ t11)
def c_soundList_k2 (t : TypedT) (open_ : List Bool) (t9F : List StmtT) (t10F : Int) (t11 : Int) : Option (Bool × TypedT) := c_soundList_L1_run t9F t10F (.c1 t open_ t11)
theorem c_soundList_L1_eq (t : TypedT) (open_ : List Bool) (t9F : List StmtT) (t10F : Int) (t11 : Int) : c_soundList_L1 t open_ t9F t10F t11 = (if t11 < t10F then (idx t9F t11) >>= fun t13 => (c_soundStmt t t13) >>= fun t17 => (if (!t17.1) = true then some (false, t17.2) else (if t13.Kind = 7 then (if (open_.length : Int) = 16 then some (false, t17.2) else (app 1 open_ [false]) >>= fun t29 => c_soundList_k2 t17.2 t29 t9F t10F t11) else (if t13.Kind = 8 then (if (open_.length : Int) = 0 then some (false, t17.2) else (idx open_ (w64 ((open_.length : Int) - 1))) >>= fun t38 => (if t38 = true then some (false, t17.2) else (idx open_ (w64 ((open_.length : Int) - 1))) >>= fun t44 => (some (open_.set ((w64 ((open_.length : Int) - 1)).toNat) true)) >>= fun l6773 => c_soundList_k2 t17.2 l6773 t9F t10F t11)) else (if t13.Kind = 9 then (if (open_.length : Int) = 0 then some (false, t17.2) else (cut open_ 0 (w64 ((open_.length : Int) - 1))) >>= fun t52 => c_soundList_k2 t17.2 t52 t9F t10F t11) else c_soundList_k2 t17.2 open_ t9F t10F t11)))) else some (decide ((open_.length : Int) = 0), t)) := by
 conv => lhs; unfold c_soundList_L1; unfold c_soundList_L1_run
 rfl
theorem c_soundList_k2_eq (t : TypedT) (open_ : List Bool) (t9F : List StmtT) (t10F : Int) (t11 : Int) : c_soundList_k2 t open_ t9F t10F t11 = c_soundList_L1 t open_ t9F t10F (w64 (t11 + 1)) := by
 conv => lhs; unfold c_soundList_k2; unfold c_soundList_L1_run
 rfl
def c_soundList (t : TypedT) (l : List StmtT) : Option (Bool × TypedT) :=
 c_soundList_L1 t [] l (l.length : Int) 0
def c_soundStage_L3 (t : TypedT) (i : Int) (t73 : List TNextT) (t74 : Int) (t75 : Int) : Option (Bool × TypedT) :=
 if t75 < t74 then (idx t73 t75) >>= fun t77 => (c_in t77.To 0 (w64 ((t.Stages.length : Int) - 1))) >>= fun t87 => (if t87 = true then (if t77.To = i then some (false, t) else (c_SoundExpr t t77.When 2) >>= fun t101 => (if t101 = true then c_soundStage_L3 t i t73 t74 (w64 (t75 + 1)) else some (false, t))) else some (false, t)) else some (true, t)
  partial_fixpoint
def c_soundStage_k2 (t : TypedT) (i : Int) (s_ : TStageT) : Option (Bool × TypedT) :=
 (c_soundList t s_.Enter) >>= fun t56 => (if (!t56.1) = true then some (false, t56.2) else (c_soundList t56.2 s_.During) >>= fun t62 => (if (!t62.1) = true then some (false, t62.2) else (c_soundList t62.2 s_.Leave) >>= fun t69 => (if (!t69.1) = true then some (false, t69.2) else c_soundStage_L3 t69.2 i s_.Nexts (s_.Nexts.length : Int) 0)))
def c_soundStage_k1 (t : TypedT) (i : Int) (s_ : TStageT) : Option (Bool × TypedT) :=
 if (t.Tables.Groups.length : Int) < 64 then (shrI .u64 s_.Green (t.Tables.Groups.length : Int)) >>= fun t50 => (if t50 = 0 then c_soundStage_k2 t i s_ else some (false, t)) else c_soundStage_k2 t i s_
def c_soundStage (t : TypedT) (i : Int) : Option (Bool × TypedT) :=
 (idx t.Stages i) >>= fun t14 => (c_in t14.Id 0 255) >>= fun t18 => (if t18 = true then (if i > 0 then (idx t.Stages (w64 (i - 1))) >>= fun t32 => (if t14.Id ≤ t32.Id then some (false, t) else c_soundStage_k1 t i t14) else c_soundStage_k1 t i t14) else some (false, t))
def c_Sound_L2 (t : TypedT) (stmts : Int) (nexts : Int) (total : Int) (t78 : List TStageT) (t79 : Int) (t80 : Int) : Option Bool :=
 if t80 < t79 then (idx t78 t80) >>= fun t83 => (c_nodes t83) >>= fun t105 => (if (w64 (stmts + (w64 ((w64 ((t83.Enter.length : Int) + (t83.During.length : Int))) + (t83.Leave.length : Int))))) > 4096 then some false else (if (w64 (nexts + (t83.Nexts.length : Int))) > 4096 then some false else (if (w64 (total + t105)) > 16384 then some false else (c_soundStage t t80) >>= fun t119 => (if (!t119.1) = true then some false else c_Sound_L2 t119.2 (w64 (stmts + (w64 ((w64 ((t83.Enter.length : Int) + (t83.During.length : Int))) + (t83.Leave.length : Int))))) (w64 (nexts + (t83.Nexts.length : Int))) (w64 (total + t105)) t78 t79 (w64 (t80 + 1)))))) else some true
  partial_fixpoint
def c_Sound_L1 (t : TypedT) (t60 : List DetT) (t61 : Int) (t62 : Int) : Option Bool :=
 if t62 < t61 then (idx t60 t62) >>= fun t64 => (c_in t64.Delay 0 3600) >>= fun t68 => (if t68 = true then (c_in t64.Hold 0 3600) >>= fun t73 => (if t73 = true then c_Sound_L1 t t60 t61 (w64 (t62 + 1)) else some false) else some false) else c_Sound_L2 t 0 0 0 t.Stages (t.Stages.length : Int) 0
  partial_fixpoint
def c_Sound (t : TypedT) : Option Bool :=
 (c_Grid t.Tables) >>= fun t12 => (if t12 = true then (if (t.Dets.length : Int) > 64 then some false else (if (t.Timers.length : Int) > 64 then some false else (if (t.Counters.length : Int) > 64 then some false else (if (t.Vars.length : Int) > 64 then some false else (c_in (t.Stages.length : Int) 1 256) >>= fun t42 => (if t42 = true then (c_in t.Start 0 (w64 ((t.Stages.length : Int) - 1))) >>= fun t52 => (if t52 = true then (c_named t) >>= fun t56 => (if (!t56.1) = true then some false else c_Sound_L1 t56.2 t56.2.Dets (t56.2.Dets.length : Int) 0) else some false) else some false))))) else some false)
def r2_letter (c : Int) : Option Bool :=
 if c ≥ 97 then (if c ≤ 122 then some true else (if c ≥ 65 then some (decide (c ≤ 90)) else some false)) else (if c ≥ 65 then some (decide (c ≤ 90)) else some false)
def r2_digit (c : Int) : Option Bool :=
 if c ≥ 48 then some (decide (c ≤ 57)) else some false
def r2_inRun (c : Int) : Option Bool :=
 (r2_letter c) >>= fun t4 => (if t4 = true then some true else (r2_digit c) >>= fun t7 => (if t7 = true then some true else some (decide (c = 95))))
def r2_runEnd_L1 (s_ : ByteArray) (i : Int) : Option Int :=
 if i < (s_.size : Int) then (sidx s_ i) >>= fun t12 => (r2_inRun t12) >>= fun t13 => (if t13 = true then r2_runEnd_L1 s_ (w64 (i + 1)) else some i) else some i
  partial_fixpoint
def r2_runEnd (s_ : ByteArray) (i : Int) : Option Int :=
 r2_runEnd_L1 s_ i
def r2_value_k1 (c : Int) (base : Int) : Option Int :=
 if base = 16 then (if c ≥ 65 then (if c ≤ 70 then some (w64 ((w64 (IntKind.u8.wrap (c - 65))) + 10)) else some (-1)) else some (-1)) else some (-1)
def r2_value (c : Int) (base : Int) : Option Int :=
 (r2_digit c) >>= fun t6 => (if t6 = true then some (w64 (IntKind.u8.wrap (c - 48))) else (if base = 16 then (if c ≥ 97 then (if c ≤ 102 then some (w64 ((w64 (IntKind.u8.wrap (c - 97))) + 10)) else r2_value_k1 c base) else r2_value_k1 c base) else r2_value_k1 c base))
inductive r2_digits_L1_S where
 | c0 (n_ : Int) (i : Int)
 | c1 (n_ : Int) (i : Int)
def r2_digits_L1_run (wF : ByteArray) (baseF : Int) (gapsF : Bool) (st : r2_digits_L1_S) : Option (Int × Bool) :=
 match st with
 | .c0 n_ i => if i < (wF.size : Int) then (sidx wF i) >>= fun t19 => (if t19 = 95 then (if (!gapsF) = true then some (0, false) else (if i = 0 then some (0, false) else (if i = (w64 ((wF.size : Int) - 1)) then some (0, false) else (sidx wF (w64 (i - 1))) >>= fun t38 => (if t38 = 95 then some (0, false) else r2_digits_L1_run wF baseF gapsF (.c1 n_ i))))) else (sidx wF i) >>= fun t43 => (r2_value t43 baseF) >>= fun t45 => (if t45 < 0 then some (0, false) else (if (w64 ((w64 (n_ * baseF)) + t45)) > 1099511627776 then r2_digits_L1_run wF baseF gapsF (.c1 1099511627776 i) else r2_digits_L1_run wF baseF gapsF (.c1 (w64 ((w64 (n_ * baseF)) + t45)) i)))) else some (n_, decide ((wF.size : Int) > 0))
 | .c1 n_ i => r2_digits_L1_run wF baseF gapsF (.c0 n_ (w64 (i + 1)))
  partial_fixpoint
def r2_digits_L1 (wF : ByteArray) (baseF : Int) (gapsF : Bool) (n_ : Int) (i : Int) : Option (Int × Bool) := r2_digits_L1_run wF baseF gapsF (.c0 n_ i)
def r2_digits_k2 (wF : ByteArray) (baseF : Int) (gapsF : Bool) (n_ : Int) (i : Int) : Option (Int × Bool) := r2_digits_L1_run wF baseF gapsF (.c1 n_ i)
theorem r2_digits_L1_eq (wF : ByteArray) (baseF : Int) (gapsF : Bool) (n_ : Int) (i : Int) : r2_digits_L1 wF baseF gapsF n_ i = (if i < (wF.size : Int) then (sidx wF i) >>= fun t19 => (if t19 = 95 then (if (!gapsF) = true then some (0, false) else (if i = 0 then some (0, false) else (if i = (w64 ((wF.size : Int) - 1)) then some (0, false) else (sidx wF (w64 (i - 1))) >>= fun t38 => (if t38 = 95 then some (0, false) else r2_digits_k2 wF baseF gapsF n_ i)))) else (sidx wF i) >>= fun t43 => (r2_value t43 baseF) >>= fun t45 => (if t45 < 0 then some (0, false) else (if (w64 ((w64 (n_ * baseF)) + t45)) > 1099511627776 then r2_digits_k2 wF baseF gapsF 1099511627776 i else r2_digits_k2 wF baseF gapsF (w64 ((w64 (n_ * baseF)) + t45)) i))) else some (n_, decide ((wF.size : Int) > 0))) := by
 conv => lhs; unfold r2_digits_L1; unfold r2_digits_L1_run
 rfl
theorem r2_digits_k2_eq (wF : ByteArray) (baseF : Int) (gapsF : Bool) (n_ : Int) (i : Int) : r2_digits_k2 wF baseF gapsF n_ i = r2_digits_L1 wF baseF gapsF n_ (w64 (i + 1)) := by
 conv => lhs; unfold r2_digits_k2; unfold r2_digits_L1_run
 rfl
def r2_digits (w : ByteArray) (base : Int) (gaps : Bool) : Option (Int × Bool) :=
 r2_digits_L1 w base gaps 0 0
inductive r2_duration_L1_S where
 | c0 (n_ : Int) (i : Int) (k : Int)
 | c1 (n_ : Int) (i : Int) (k : Int) (j : Int)
 | c2 (n_ : Int) (i : Int) (k : Int) (j : Int)
 | c3 (n_ : Int) (k : Int) (j : Int)
 | c4 (n_ : Int) (i : Int) (k : Int)
def r2_duration_L1_run (wF : ByteArray) (unitsF : ByteArray) (worthF : A3 Int) (st : r2_duration_L1_S) : Option (Int × Bool) :=
 match st with
 | .c0 n_ i k => if k < 3 then r2_duration_L1_run wF unitsF worthF (.c1 n_ i k i) else (if i > 0 then some (n_, decide (i = (wF.size : Int))) else some (n_, false))
 | .c1 n_ i k j => if j < (wF.size : Int) then (sidx wF j) >>= fun t25 => (r2_digit t25) >>= fun t26 => (if t26 = true then r2_duration_L1_run wF unitsF worthF (.c1 n_ i k (w64 (j + 1))) else r2_duration_L1_run wF unitsF worthF (.c2 n_ i k j)) else r2_duration_L1_run wF unitsF worthF (.c2 n_ i k j)
 | .c2 n_ i k j => if j > i then (if j < (wF.size : Int) then (sidx wF j) >>= fun t42 => (sidx unitsF k) >>= fun t45 => (if t42 = t45 then (scut wF i j) >>= fun t52 => (r2_digits t52 10 false) >>= fun t53 => (A3.get worthF k) >>= fun t59 => (if (w64 (n_ + (w64 (t53.1 * t59)))) > 1099511627776 then r2_duration_L1_run wF unitsF worthF (.c3 1099511627776 k j) else r2_duration_L1_run wF unitsF worthF (.c3 (w64 (n_ + (w64 (t53.1 * t59)))) k j)) else r2_duration_L1_run wF unitsF worthF (.c4 n_ i k)) else r2_duration_L1_run wF unitsF worthF (.c4 n_ i k)) else r2_duration_L1_run wF unitsF worthF (.c4 n_ i k)
 | .c3 n_ k j => r2_duration_L1_run wF unitsF worthF (.c4 n_ (w64 (j + 1)) k)
 | .c4 n_ i k => r2_duration_L1_run wF unitsF worthF (.c0 n_ i (w64 (k + 1)))
  partial_fixpoint
def r2_duration_L1 (wF : ByteArray) (unitsF : ByteArray) (worthF : A3 Int) (n_ : Int) (i : Int) (k : Int) : Option (Int × Bool) := r2_duration_L1_run wF unitsF worthF (.c0 n_ i k)
def r2_duration_L2 (wF : ByteArray) (unitsF : ByteArray) (worthF : A3 Int) (n_ : Int) (i : Int) (k : Int) (j : Int) : Option (Int × Bool) := r2_duration_L1_run wF unitsF worthF (.c1 n_ i k j)
def r2_duration_k3 (wF : ByteArray) (unitsF : ByteArray) (worthF : A3 Int) (n_ : Int) (i : Int) (k : Int) (j : Int) : Option (Int × Bool) := r2_duration_L1_run wF unitsF worthF (.c2 n_ i k j)
def r2_duration_k4 (wF : ByteArray) (unitsF : ByteArray) (worthF : A3 Int) (n_ : Int) (k : Int) (j : Int) : Option (Int × Bool) := r2_duration_L1_run wF unitsF worthF (.c3 n_ k j)
def r2_duration_k5 (wF : ByteArray) (unitsF : ByteArray) (worthF : A3 Int) (n_ : Int) (i : Int) (k : Int) : Option (Int × Bool) := r2_duration_L1_run wF unitsF worthF (.c4 n_ i k)
theorem r2_duration_L1_eq (wF : ByteArray) (unitsF : ByteArray) (worthF : A3 Int) (n_ : Int) (i : Int) (k : Int) : r2_duration_L1 wF unitsF worthF n_ i k = (if k < 3 then r2_duration_L2 wF unitsF worthF n_ i k i else (if i > 0 then some (n_, decide (i = (wF.size : Int))) else some (n_, false))) := by
 conv => lhs; unfold r2_duration_L1; unfold r2_duration_L1_run
 rfl
theorem r2_duration_L2_eq (wF : ByteArray) (unitsF : ByteArray) (worthF : A3 Int) (n_ : Int) (i : Int) (k : Int) (j : Int) : r2_duration_L2 wF unitsF worthF n_ i k j = (if j < (wF.size : Int) then (sidx wF j) >>= fun t25 => (r2_digit t25) >>= fun t26 => (if t26 = true then r2_duration_L2 wF unitsF worthF n_ i k (w64 (j + 1)) else r2_duration_k3 wF unitsF worthF n_ i k j) else r2_duration_k3 wF unitsF worthF n_ i k j) := by
 conv => lhs; unfold r2_duration_L2; unfold r2_duration_L1_run
 rfl
theorem r2_duration_k3_eq (wF : ByteArray) (unitsF : ByteArray) (worthF : A3 Int) (n_ : Int) (i : Int) (k : Int) (j : Int) : r2_duration_k3 wF unitsF worthF n_ i k j = (if j > i then (if j < (wF.size : Int) then (sidx wF j) >>= fun t42 => (sidx unitsF k) >>= fun t45 => (if t42 = t45 then (scut wF i j) >>= fun t52 => (r2_digits t52 10 false) >>= fun t53 => (A3.get worthF k) >>= fun t59 => (if (w64 (n_ + (w64 (t53.1 * t59)))) > 1099511627776 then r2_duration_k4 wF unitsF worthF 1099511627776 k j else r2_duration_k4 wF unitsF worthF (w64 (n_ + (w64 (t53.1 * t59)))) k j) else r2_duration_k5 wF unitsF worthF n_ i k) else r2_duration_k5 wF unitsF worthF n_ i k) else r2_duration_k5 wF unitsF worthF n_ i k) := by
 conv => lhs; unfold r2_duration_k3; unfold r2_duration_L1_run
 rfl
theorem r2_duration_k4_eq (wF : ByteArray) (unitsF : ByteArray) (worthF : A3 Int) (n_ : Int) (k : Int) (j : Int) : r2_duration_k4 wF unitsF worthF n_ k j = r2_duration_k5 wF unitsF worthF n_ (w64 (j + 1)) k := by
 conv => lhs; unfold r2_duration_k4; unfold r2_duration_L1_run
 rfl
theorem r2_duration_k5_eq (wF : ByteArray) (unitsF : ByteArray) (worthF : A3 Int) (n_ : Int) (i : Int) (k : Int) : r2_duration_k5 wF unitsF worthF n_ i k = r2_duration_L1 wF unitsF worthF n_ i (w64 (k + 1)) := by
 conv => lhs; unfold r2_duration_k5; unfold r2_duration_L1_run
 rfl
def r2_duration (w : ByteArray) : Option (Int × Bool) :=
 r2_duration_L1 w ⟨#[104, 109, 115]⟩ (⟨3600, 60, 1⟩ : (A3 Int)) 0 0 0
def r2_Number_k3 (n_ : Int) (ok : Bool) : Option (Int × Int) :=
 if (!ok) = true then some (0, 22) else (if n_ > 2147483647 then some (0, 23) else some ((IntKind.i32.wrap n_), 0))
def r2_Number_k2 (w : ByteArray) (n_ : Int) (ok : Bool) : Option (Int × Int) :=
 if (!ok) = true then (r2_duration w) >>= fun t38 => (if t38.2 = true then r2_Number_k3 t38.1 true else r2_Number_k3 t38.1 false) else r2_Number_k3 n_ ok
def r2_Number_k1 (w : ByteArray) (n_ : Int) (ok : Bool) : Option (Int × Int) :=
 if (!ok) = true then (if (w.size : Int) > 2 then (sidx w 0) >>= fun t20 => (if t20 = 48 then (sidx w 1) >>= fun t25 => (if t25 = 120 then (scut w 2 w.size) >>= fun t30 => (r2_digits t30 16 true) >>= fun t31 => (if t31.2 = true then r2_Number_k2 w t31.1 true else r2_Number_k2 w t31.1 false) else r2_Number_k2 w n_ ok) else r2_Number_k2 w n_ ok) else r2_Number_k2 w n_ ok) else r2_Number_k2 w n_ ok
def r2_Number (w : ByteArray) : Option (Int × Int) :=
 (r2_digits w 10 true) >>= fun t8 => (if t8.2 = true then r2_Number_k1 w t8.1 true else r2_Number_k1 w t8.1 false)
def r2_KindOf_L2 (w : ByteArray) (i : Int) : Option Int :=
 if i < 18 then (idx r2_signs_tab i) >>= fun t23 => (if t23 = w then some (w64 (60 + i)) else r2_KindOf_L2 w (w64 (i + 1))) else (if w = (⟨#[]⟩ : ByteArray) then some (-1) else (r2_runEnd w 0) >>= fun t33 => (if t33 = (w.size : Int) then (sidx w 0) >>= fun t39 => (r2_letter t39) >>= fun t40 => (if t40 = true then (if (w.size : Int) > 32 then some (-1) else some 1) else (r2_Number w) >>= fun t46 => (if t46.2 = 0 then some 2 else some (-1))) else some (-1)))
  partial_fixpoint
def r2_KindOf_L1 (w : ByteArray) (i : Int) : Option Int :=
 if i < 41 then (idx r2_words_tab i) >>= fun t12 => (if t12 = w then some (w64 (10 + i)) else r2_KindOf_L1 w (w64 (i + 1))) else r2_KindOf_L2 w 0
  partial_fixpoint
def r2_KindOf (w : ByteArray) : Option Int :=
 r2_KindOf_L1 w 0
inductive r5_unlike_L1_S where
 | c0 (i : Int)
 | c1 (i : Int) (j : Int)
def r5_unlike_L1_run (lF : List ByteArray) (st : r5_unlike_L1_S) : Option Bool :=
 match st with
 | .c0 i => if i < (lF.length : Int) then (idx lF i) >>= fun t13 => (r2_KindOf t13) >>= fun t15 => (if t15 = 1 then r5_unlike_L1_run lF (.c1 i 0) else some false) else some true
 | .c1 i j => if j < i then (idx lF i) >>= fun t24 => (idx lF j) >>= fun t28 => (if t24 = t28 then some false else r5_unlike_L1_run lF (.c1 i (w64 (j + 1)))) else r5_unlike_L1_run lF (.c0 (w64 (i + 1)))
  partial_fixpoint
def r5_unlike_L1 (lF : List ByteArray) (i : Int) : Option Bool := r5_unlike_L1_run lF (.c0 i)
def r5_unlike_L2 (lF : List ByteArray) (i : Int) (j : Int) : Option Bool := r5_unlike_L1_run lF (.c1 i j)
theorem r5_unlike_L1_eq (lF : List ByteArray) (i : Int) : r5_unlike_L1 lF i = (if i < (lF.length : Int) then (idx lF i) >>= fun t13 => (r2_KindOf t13) >>= fun t15 => (if t15 = 1 then r5_unlike_L2 lF i 0 else some false) else some true) := by
 conv => lhs; unfold r5_unlike_L1; unfold r5_unlike_L1_run
 rfl
theorem r5_unlike_L2_eq (lF : List ByteArray) (i : Int) (j : Int) : r5_unlike_L2 lF i j = (if j < i then (idx lF i) >>= fun t24 => (idx lF j) >>= fun t28 => (if t24 = t28 then some false else r5_unlike_L2 lF i (w64 (j + 1))) else r5_unlike_L1 lF (w64 (i + 1))) := by
 conv => lhs; unfold r5_unlike_L2; unfold r5_unlike_L1_run
 rfl
def r5_unlike (l : List ByteArray) : Option Bool :=
 r5_unlike_L1 l 0
def r5_things_L4 (t : TypedT) (l : List ByteArray) (i : Int) : Option (List ByteArray) :=
 if i < (t.Stages.length : Int) then (idx t.Stages i) >>= fun t77 => (app 16 l [t77.Name]) >>= fun t81 => r5_things_L4 t t81 (w64 (i + 1)) else some l
  partial_fixpoint
def r5_things_L3 (t : TypedT) (l : List ByteArray) (i : Int) : Option (List ByteArray) :=
 if i < (t.Vars.length : Int) then (idx t.Vars i) >>= fun t61 => (app 16 l [t61.Name]) >>= fun t65 => r5_things_L3 t t65 (w64 (i + 1)) else r5_things_L4 t l 0
  partial_fixpoint
def r5_things_L2 (t : TypedT) (l : List ByteArray) (i : Int) : Option (List ByteArray) :=
 if i < (t.Dets.length : Int) then (idx t.Dets i) >>= fun t37 => (app 16 l [t37.Name]) >>= fun t41 => r5_things_L2 t t41 (w64 (i + 1)) else (app 16 l t.Timers) >>= fun t45 => (app 16 t45 t.Counters) >>= fun t49 => r5_things_L3 t t49 0
  partial_fixpoint
def r5_things_L1 (t : TypedT) (l : List ByteArray) (i : Int) : Option (List ByteArray) :=
 if i < (t.Tables.Groups.length : Int) then (idx t.Tables.Groups i) >>= fun t21 => (app 16 l [t21.Name]) >>= fun t25 => r5_things_L1 t t25 (w64 (i + 1)) else r5_things_L2 t l 0
  partial_fixpoint
def r5_things (t : TypedT) : Option (List ByteArray) :=
 r5_things_L1 t [] 0
def r3_Arity_k4 (op : Int) : Option Int :=
 if op = 50 then some 2 else (if op = 51 then some 2 else some (-1))
def r3_Arity_k3 (op : Int) : Option Int :=
 if op ≥ 40 then (if op ≤ 45 then some 2 else r3_Arity_k4 op) else r3_Arity_k4 op
def r3_Arity_k2 (op : Int) : Option Int :=
 if op ≥ 30 then (if op ≤ 36 then some 2 else r3_Arity_k3 op) else r3_Arity_k3 op
def r3_Arity_k1 (op : Int) : Option Int :=
 if op ≥ 20 then (if op ≤ 22 then some 1 else r3_Arity_k2 op) else r3_Arity_k2 op
def r3_Arity (op : Int) : Option Int :=
 if op ≥ 1 then (if op ≤ 10 then some 0 else r3_Arity_k1 op) else r3_Arity_k1 op
def r3_Span_L1 (e : List NodeT) (wanted : Int) (j : Int) : Option Int :=
 if j ≥ 0 then (idx e j) >>= fun t23 => (r3_Arity t23.Op) >>= fun t26 => (if t26 < 0 then some (-1) else (if (w64 ((w64 (wanted - 1)) + t26)) = 0 then some j else r3_Span_L1 e (w64 ((w64 (wanted - 1)) + t26)) (w64 (j - 1)))) else some (-1)
  partial_fixpoint
def r3_Span (e : List NodeT) (i : Int) : Option Int :=
 if i < 0 then some (-1) else (if i ≥ (e.length : Int) then some (-1) else r3_Span_L1 e 1 i)
def r3_One (e : List NodeT) : Option Bool :=
 if (e.length : Int) = 0 then some false else (r3_Span e (w64 ((e.length : Int) - 1))) >>= fun t11 => some (decide (t11 = 0))
def r3_Asked (op : Int) : Option (Int × Int) :=
 if op = 51 then some (1, 2) else (if op = 50 then some (2, 3) else (if op = 21 then some (3, 3) else (if op = 40 then some (5, 5) else (if op = 41 then some (5, 5) else (if op = 42 then some (5, 5) else (if op = 43 then some (5, 5) else (if op = 44 then some (5, 5) else (if op = 45 then some (5, 5) else (if op = 30 then some (5, 6) else (if op = 31 then some (5, 6) else (if op = 32 then some (6, 7) else (if op = 33 then some (6, 7) else (if op = 34 then some (6, 7) else (if op = 20 then some (7, 7) else some (1, 1)))))))))))))))
def r3_Level (op : Int) : Option Int :=
 if op = 51 then some 1 else (if op = 50 then some 2 else (if op = 21 then some 3 else (if op = 40 then some 4 else (if op = 41 then some 4 else (if op = 42 then some 4 else (if op = 43 then some 4 else (if op = 44 then some 4 else (if op = 45 then some 4 else (if op = 30 then some 5 else (if op = 31 then some 5 else (if op = 32 then some 6 else (if op = 33 then some 6 else (if op = 34 then some 6 else (if op = 20 then some 7 else some 8))))))))))))))
inductive r3_Nest_L2_S where
 | c0 (nests : List Int) (ops : List Int) (i : Int)
 | c1 (nests : List Int) (ops : List Int) (i : Int) (op : Int) (a : Int) (x : Int) (y : Int) (own : Int) (k : Int)
 | c2 (nests : List Int) (ops : List Int) (i : Int) (op : Int) (a : Int) (x : Int) (y : Int) (own : Int) (k : Int) (n_ : Int) (asked : Int)
 | c3 (nests : List Int) (ops : List Int) (i : Int) (op : Int) (a : Int) (x : Int) (y : Int) (own : Int) (k : Int) (v : Int)
 | c4 (nests : List Int) (ops : List Int) (i : Int) (op : Int) (a : Int) (x : Int) (y : Int) (own : Int) (k : Int)
 | c5 (nests : List Int) (ops : List Int) (i : Int) (op : Int) (a : Int) (own : Int)
 | c6 (nests : List Int) (ops : List Int) (i : Int) (op : Int) (a : Int) (own : Int)
def r3_Nest_L2_run (eF : List NodeT) (st : r3_Nest_L2_S) : Option Int :=
 match st with
 | .c0 nests ops i => if i < (eF.length : Int) then (idx eF i) >>= fun t28 => (r3_Arity t28.Op) >>= fun t32 => (r3_Asked t28.Op) >>= fun t35 => r3_Nest_L2_run eF (.c1 nests ops i t28.Op t32 t35.1 t35.2 0 0) else (idx nests 0) >>= fun t105 => some t105
 | .c1 nests ops i op a x y own k => if k < a then (if k = 1 then r3_Nest_L2_run eF (.c2 nests ops i op a x y own k (w64 ((w64 ((nests.length : Int) - a)) + k)) y) else r3_Nest_L2_run eF (.c2 nests ops i op a x y own k (w64 ((w64 ((nests.length : Int) - a)) + k)) x)) else (if op ≥ 20 then (if op ≤ 22 then r3_Nest_L2_run eF (.c5 nests ops i op a own) else (if op = 35 then r3_Nest_L2_run eF (.c5 nests ops i op a own) else (if op = 36 then r3_Nest_L2_run eF (.c5 nests ops i op a own) else r3_Nest_L2_run eF (.c6 nests ops i op a own)))) else (if op = 35 then r3_Nest_L2_run eF (.c5 nests ops i op a own) else (if op = 36 then r3_Nest_L2_run eF (.c5 nests ops i op a own) else r3_Nest_L2_run eF (.c6 nests ops i op a own))))
 | .c2 nests ops i op a x y own k n_ asked => (idx nests n_) >>= fun t55 => (idx ops n_) >>= fun t59 => (r3_Level t59) >>= fun t61 => (if t61 < asked then r3_Nest_L2_run eF (.c3 nests ops i op a x y own k (w64 (t55 + 1))) else r3_Nest_L2_run eF (.c3 nests ops i op a x y own k t55))
 | .c3 nests ops i op a x y own k v => if v > own then r3_Nest_L2_run eF (.c4 nests ops i op a x y v k) else r3_Nest_L2_run eF (.c4 nests ops i op a x y own k)
 | .c4 nests ops i op a x y own k => r3_Nest_L2_run eF (.c1 nests ops i op a x y own (w64 (k + 1)))
 | .c5 nests ops i op a own => r3_Nest_L2_run eF (.c6 nests ops i op a (w64 (own + 1)))
 | .c6 nests ops i op a own => (cut nests 0 (w64 ((nests.length : Int) - a))) >>= fun t91 => (app 8 t91 [own]) >>= fun t94 => (cut ops 0 (w64 ((ops.length : Int) - a))) >>= fun t100 => (app 8 t100 [op]) >>= fun t103 => r3_Nest_L2_run eF (.c0 t94 t103 (w64 (i + 1)))
  partial_fixpoint
def r3_Nest_L2 (eF : List NodeT) (nests : List Int) (ops : List Int) (i : Int) : Option Int := r3_Nest_L2_run eF (.c0 nests ops i)
def r3_Nest_L3 (eF : List NodeT) (nests : List Int) (ops : List Int) (i : Int) (op : Int) (a : Int) (x : Int) (y : Int) (own : Int) (k : Int) : Option Int := r3_Nest_L2_run eF (.c1 nests ops i op a x y own k)
def r3_Nest_k4 (eF : List NodeT) (nests : List Int) (ops : List Int) (i : Int) (op : Int) (a : Int) (x : Int) (y : Int) (own : Int) (k : Int) (n_ : Int) (asked : Int) : Option Int := r3_Nest_L2_run eF (.c2 nests ops i op a x y own k n_ asked)
def r3_Nest_k7 (eF : List NodeT) (nests : List Int) (ops : List Int) (i : Int) (op : Int) (a : Int) (x : Int) (y : Int) (own : Int) (k : Int) (v : Int) : Option Int := r3_Nest_L2_run eF (.c3 nests ops i op a x y own k v)
def r3_Nest_k8 (eF : List NodeT) (nests : List Int) (ops : List Int) (i : Int) (op : Int) (a : Int) (x : Int) (y : Int) (own : Int) (k : Int) : Option Int := r3_Nest_L2_run eF (.c4 nests ops i op a x y own k)
def r3_Nest_k5 (eF : List NodeT) (nests : List Int) (ops : List Int) (i : Int) (op : Int) (a : Int) (own : Int) : Option Int := r3_Nest_L2_run eF (.c5 nests ops i op a own)
def r3_Nest_k6 (eF : List NodeT) (nests : List Int) (ops : List Int) (i : Int) (op : Int) (a : Int) (own : Int) : Option Int := r3_Nest_L2_run eF (.c6 nests ops i op a own)
theorem r3_Nest_L2_eq (eF : List NodeT) (nests : List Int) (ops : List Int) (i : Int) : r3_Nest_L2 eF nests ops i = (if i < (eF.length : Int) then (idx eF i) >>= fun t28 => (r3_Arity t28.Op) >>= fun t32 => (r3_Asked t28.Op) >>= fun t35 => r3_Nest_L3 eF nests ops i t28.Op t32 t35.1 t35.2 0 0 else (idx nests 0) >>= fun t105 => some t105) := by
 conv => lhs; unfold r3_Nest_L2; unfold r3_Nest_L2_run
 rfl
theorem r3_Nest_L3_eq (eF : List NodeT) (nests : List Int) (ops : List Int) (i : Int) (op : Int) (a : Int) (x : Int) (y : Int) (own : Int) (k : Int) : r3_Nest_L3 eF nests ops i op a x y own k = (if k < a then (if k = 1 then r3_Nest_k4 eF nests ops i op a x y own k (w64 ((w64 ((nests.length : Int) - a)) + k)) y else r3_Nest_k4 eF nests ops i op a x y own k (w64 ((w64 ((nests.length : Int) - a)) + k)) x) else (if op ≥ 20 then (if op ≤ 22 then r3_Nest_k5 eF nests ops i op a own else (if op = 35 then r3_Nest_k5 eF nests ops i op a own else (if op = 36 then r3_Nest_k5 eF nests ops i op a own else r3_Nest_k6 eF nests ops i op a own))) else (if op = 35 then r3_Nest_k5 eF nests ops i op a own else (if op = 36 then r3_Nest_k5 eF nests ops i op a own else r3_Nest_k6 eF nests ops i op a own)))) := by
 conv => lhs; unfold r3_Nest_L3; unfold r3_Nest_L2_run
 rfl
theorem r3_Nest_k4_eq (eF : List NodeT) (nests : List Int) (ops : List Int) (i : Int) (op : Int) (a : Int) (x : Int) (y : Int) (own : Int) (k : Int) (n_ : Int) (asked : Int) : r3_Nest_k4 eF nests ops i op a x y own k n_ asked = (idx nests n_) >>= fun t55 => (idx ops n_) >>= fun t59 => (r3_Level t59) >>= fun t61 => (if t61 < asked then r3_Nest_k7 eF nests ops i op a x y own k (w64 (t55 + 1)) else r3_Nest_k7 eF nests ops i op a x y own k t55) := by
 conv => lhs; unfold r3_Nest_k4; unfold r3_Nest_L2_run
 rfl
theorem r3_Nest_k7_eq (eF : List NodeT) (nests : List Int) (ops : List Int) (i : Int) (op : Int) (a : Int) (x : Int) (y : Int) (own : Int) (k : Int) (v : Int) : r3_Nest_k7 eF nests ops i op a x y own k v = (if v > own then r3_Nest_k8 eF nests ops i op a x y v k else r3_Nest_k8 eF nests ops i op a x y own k) := by
 conv => lhs; unfold r3_Nest_k7; unfold r3_Nest_L2_run
 rfl
theorem r3_Nest_k8_eq (eF : List NodeT) (nests : List Int) (ops : List Int) (i : Int) (op : Int) (a : Int) (x : Int) (y : Int) (own : Int) (k : Int) : r3_Nest_k8 eF nests ops i op a x y own k = r3_Nest_L3 eF nests ops i op a x y own (w64 (k + 1)) := by
 conv => lhs; unfold r3_Nest_k8; unfold r3_Nest_L2_run
 rfl
theorem r3_Nest_k5_eq (eF : List NodeT) (nests : List Int) (ops : List Int) (i : Int) (op : Int) (a : Int) (own : Int) : r3_Nest_k5 eF nests ops i op a own = r3_Nest_k6 eF nests ops i op a (w64 (own + 1)) := by
 conv => lhs; unfold r3_Nest_k5; unfold r3_Nest_L2_run
 rfl
theorem r3_Nest_k6_eq (eF : List NodeT) (nests : List Int) (ops : List Int) (i : Int) (op : Int) (a : Int) (own : Int) : r3_Nest_k6 eF nests ops i op a own = (cut nests 0 (w64 ((nests.length : Int) - a))) >>= fun t91 => (app 8 t91 [own]) >>= fun t94 => (cut ops 0 (w64 ((ops.length : Int) - a))) >>= fun t100 => (app 8 t100 [op]) >>= fun t103 => r3_Nest_L2 eF t94 t103 (w64 (i + 1)) := by
 conv => lhs; unfold r3_Nest_k6; unfold r3_Nest_L2_run
 rfl
def r3_Nest_k1 (e : List NodeT) (ok : Bool) : Option Int :=
 if (!ok) = true then some (-1) else r3_Nest_L2 e [] [] 0
def r3_Nest (e : List NodeT) : Option Int :=
 (r3_One e) >>= fun t17 => (if t17 = true then r3_Nest_k1 e true else r3_Nest_k1 e false)
def r5_operands (op : Int) : Option Int :=
 if op ≥ 30 then some 2 else (if op ≥ 20 then some 1 else some 0)
def r5_result_k1 (a : Int) : Option Int :=
 if a = 1 then some 1 else some 0
def r5_result_k3 (a : Int) (b : Int) : Option Int :=
 if a = b then some 2 else some 0
def r5_result_k5 (a : Int) (b : Int) : Option Int :=
 if a = 2 then (if b = 2 then some 2 else some 0) else some 0
def r5_result_k4 (op : Int) (a : Int) (b : Int) : Option Int :=
 if op = 50 then r5_result_k5 a b else (if op = 51 then r5_result_k5 a b else some 0)
def r5_result_k2 (op : Int) (a : Int) (b : Int) : Option Int :=
 if op = 40 then r5_result_k3 a b else (if op = 41 then r5_result_k3 a b else (if op ≥ 42 then (if op ≤ 45 then (if a = 1 then (if b = 1 then some 2 else some 0) else some 0) else r5_result_k4 op a b) else r5_result_k4 op a b))
def r5_result (op : Int) (a : Int) (b : Int) : Option Int :=
 if op = 20 then r5_result_k1 a else (if op = 22 then r5_result_k1 a else (if op = 21 then (if a = 2 then some 2 else some 0) else (if op ≥ 30 then (if op ≤ 36 then (if a = 1 then (if b = 1 then some 1 else some 0) else some 0) else r5_result_k2 op a b) else r5_result_k2 op a b)))
def r5_room_k1 (t : TypedT) : Option Int :=
 some (t.Tables.Groups.length : Int)
def r5_room (t : TypedT) (op : Int) : Option Int :=
 if op = 5 then r5_room_k1 t else (if op = 6 then r5_room_k1 t else (if op = 7 then some (t.Vars.length : Int) else (if op = 8 then some (t.Timers.length : Int) else (if op = 9 then some (t.Counters.length : Int) else (if op = 10 then some (t.Dets.length : Int) else some 0)))))
def r5_leaf_k1 (t : TypedT) (n_ : NodeT) (v : Int) : Option Int :=
 if v ≥ 0 then (r5_room t n_.Op) >>= fun t36 => (if v < t36 then some 1 else some 0) else some 0
def r5_leaf_k2 (t : TypedT) (n_ : NodeT) (v : Int) : Option Int :=
 if v ≥ 0 then (r5_room t n_.Op) >>= fun t50 => (if v < t50 then some 2 else some 0) else some 0
def r5_leaf (t : TypedT) (n_ : NodeT) : Option Int :=
 if n_.Op = 1 then some 1 else (if n_.Op = 2 then (if (w64 n_.Val) = 0 then some 2 else (if (w64 n_.Val) = 1 then some 2 else some 0)) else (if n_.Op = 4 then (if (w64 n_.Val) = 0 then some 1 else some 0) else (if n_.Op = 7 then r5_leaf_k1 t n_ (w64 n_.Val) else (if n_.Op = 8 then r5_leaf_k1 t n_ (w64 n_.Val) else (if n_.Op = 9 then r5_leaf_k1 t n_ (w64 n_.Val) else (if n_.Op = 5 then r5_leaf_k2 t n_ (w64 n_.Val) else (if n_.Op = 6 then r5_leaf_k2 t n_ (w64 n_.Val) else (if n_.Op = 10 then r5_leaf_k2 t n_ (w64 n_.Val) else some 0))))))))
inductive r5_typed_L1_S where
 | c0 (stack : List Int) (i : Int)
 | c1 (stack : List Int) (i : Int) (typ : Int)
def r5_typed_L1_run (eF : List NodeT) (tF : TypedT) (st : r5_typed_L1_S) : Option Int :=
 match st with
 | .c0 stack i => if i < (eF.length : Int) then (idx eF i) >>= fun t20 => (if t20.Name = (⟨#[]⟩ : ByteArray) then (if t20.At.Line = 0 then (if t20.At.Col = 0 then (r5_operands t20.Op) >>= fun t39 => (if t39 = 0 then (r5_leaf tF t20) >>= fun t43 => (app 8 stack [t43]) >>= fun t47 => r5_typed_L1_run eF tF (.c1 t47 i t43) else (if t20.Val = 0 then (r5_operands t20.Op) >>= fun t53 => (if t53 = 1 then (idx stack (w64 ((stack.length : Int) - 1))) >>= fun t60 => (r5_result t20.Op t60 0) >>= fun t62 => (idx stack (w64 ((stack.length : Int) - 1))) >>= fun t67 => (some (stack.set ((w64 ((stack.length : Int) - 1)).toNat) t62)) >>= fun l6884 => r5_typed_L1_run eF tF (.c1 l6884 i t62) else (idx stack (w64 ((stack.length : Int) - 2))) >>= fun t73 => (idx stack (w64 ((stack.length : Int) - 1))) >>= fun t78 => (r5_result t20.Op t73 t78) >>= fun t80 => (idx stack (w64 ((stack.length : Int) - 2))) >>= fun t85 => (some (stack.set ((w64 ((stack.length : Int) - 2)).toNat) t80)) >>= fun l6888 => (cut l6888 0 (w64 ((stack.length : Int) - 1))) >>= fun t89 => r5_typed_L1_run eF tF (.c1 t89 i t80)) else some 0)) else some 0) else some 0) else some 0) else (idx stack 0) >>= fun t93 => some t93
 | .c1 stack i typ => if typ = 0 then some 0 else r5_typed_L1_run eF tF (.c0 stack (w64 (i + 1)))
  partial_fixpoint
def r5_typed_L1 (eF : List NodeT) (tF : TypedT) (stack : List Int) (i : Int) : Option Int := r5_typed_L1_run eF tF (.c0 stack i)
def r5_typed_k2 (eF : List NodeT) (tF : TypedT) (stack : List Int) (i : Int) (typ : Int) : Option Int := r5_typed_L1_run eF tF (.c1 stack i typ)
theorem r5_typed_L1_eq (eF : List NodeT) (tF : TypedT) (stack : List Int) (i : Int) : r5_typed_L1 eF tF stack i = (if i < (eF.length : Int) then (idx eF i) >>= fun t20 => (if t20.Name = (⟨#[]⟩ : ByteArray) then (if t20.At.Line = 0 then (if t20.At.Col = 0 then (r5_operands t20.Op) >>= fun t39 => (if t39 = 0 then (r5_leaf tF t20) >>= fun t43 => (app 8 stack [t43]) >>= fun t47 => r5_typed_k2 eF tF t47 i t43 else (if t20.Val = 0 then (r5_operands t20.Op) >>= fun t53 => (if t53 = 1 then (idx stack (w64 ((stack.length : Int) - 1))) >>= fun t60 => (r5_result t20.Op t60 0) >>= fun t62 => (idx stack (w64 ((stack.length : Int) - 1))) >>= fun t67 => (some (stack.set ((w64 ((stack.length : Int) - 1)).toNat) t62)) >>= fun l6884 => r5_typed_k2 eF tF l6884 i t62 else (idx stack (w64 ((stack.length : Int) - 2))) >>= fun t73 => (idx stack (w64 ((stack.length : Int) - 1))) >>= fun t78 => (r5_result t20.Op t73 t78) >>= fun t80 => (idx stack (w64 ((stack.length : Int) - 2))) >>= fun t85 => (some (stack.set ((w64 ((stack.length : Int) - 2)).toNat) t80)) >>= fun l6888 => (cut l6888 0 (w64 ((stack.length : Int) - 1))) >>= fun t89 => r5_typed_k2 eF tF t89 i t80) else some 0)) else some 0) else some 0) else some 0) else (idx stack 0) >>= fun t93 => some t93) := by
 conv => lhs; unfold r5_typed_L1; unfold r5_typed_L1_run
 rfl
theorem r5_typed_k2_eq (eF : List NodeT) (tF : TypedT) (stack : List Int) (i : Int) (typ : Int) : r5_typed_k2 eF tF stack i typ = (if typ = 0 then some 0 else r5_typed_L1 eF tF stack (w64 (i + 1))) := by
 conv => lhs; unfold r5_typed_k2; unfold r5_typed_L1_run
 rfl
def r5_typed (t : TypedT) (e : List NodeT) : Option Int :=
 r5_typed_L1 e t [] 0
def r5_SoundExpr (t : TypedT) (e : List NodeT) (typ : Int) : Option Bool :=
 if (e.length : Int) < 1 then some false else (if (e.length : Int) > 256 then some false else (r3_Span e (w64 ((e.length : Int) - 1))) >>= fun t21 => (if t21 = 0 then (r3_Nest e) >>= fun t26 => (if t26 > 64 then some false else (r5_typed t e) >>= fun t31 => (if t31 = 0 then some false else some (decide (t31 = typ)))) else some false))
inductive r5_SoundList_L1_S where
 | c0 (elses : List Bool) (i : Int)
 | c1 (elses : List Bool) (i : Int) (s_ : StmtT) (typ : Int)
 | c2 (elses : List Bool) (i : Int) (s_ : StmtT) (typ : Int)
 | c3 (elses : List Bool) (i : Int) (s_ : StmtT) (things : Int) (typ : Int)
 | c4 (elses : List Bool) (i : Int)
def r5_SoundList_L1_run (lF : List StmtT) (tF : TypedT) (st : r5_SoundList_L1_S) : Option Bool :=
 match st with
 | .c0 elses i => if i < (lF.length : Int) then (idx lF i) >>= fun t19 => (if t19.Name = (⟨#[]⟩ : ByteArray) then (if t19.At.Line = 0 then (if t19.At.Col = 0 then (if t19.Kind = 1 then r5_SoundList_L1_run lF tF (.c3 elses i t19 (tF.Vars.length : Int) 1) else (if t19.Kind = 2 then r5_SoundList_L1_run lF tF (.c1 elses i t19 0) else (if t19.Kind = 3 then r5_SoundList_L1_run lF tF (.c1 elses i t19 0) else (if t19.Kind = 4 then r5_SoundList_L1_run lF tF (.c1 elses i t19 0) else (if t19.Kind = 5 then r5_SoundList_L1_run lF tF (.c2 elses i t19 0) else (if t19.Kind = 10 then r5_SoundList_L1_run lF tF (.c2 elses i t19 0) else (if t19.Kind = 6 then r5_SoundList_L1_run lF tF (.c3 elses i t19 (tF.Dets.length : Int) 0) else (if t19.Kind = 7 then (app 1 elses [false]) >>= fun t67 => (if (t67.length : Int) > 16 then some false else r5_SoundList_L1_run lF tF (.c3 t67 i t19 1 2)) else (if t19.Kind = 8 then (if (elses.length : Int) = 0 then some false else (idx elses (w64 ((elses.length : Int) - 1))) >>= fun t79 => (if t79 = true then some false else (idx elses (w64 ((elses.length : Int) - 1))) >>= fun t85 => (some (elses.set ((w64 ((elses.length : Int) - 1)).toNat) true)) >>= fun l6922 => r5_SoundList_L1_run lF tF (.c3 l6922 i t19 1 0))) else (if t19.Kind = 9 then (if (elses.length : Int) = 0 then some false else (cut elses 0 (w64 ((elses.length : Int) - 1))) >>= fun t93 => r5_SoundList_L1_run lF tF (.c3 t93 i t19 1 0)) else some false)))))))))) else some false) else some false) else some false) else some (decide ((elses.length : Int) = 0))
 | .c1 elses i s_ typ => r5_SoundList_L1_run lF tF (.c3 elses i s_ (tF.Timers.length : Int) typ)
 | .c2 elses i s_ typ => r5_SoundList_L1_run lF tF (.c3 elses i s_ (tF.Counters.length : Int) typ)
 | .c3 elses i s_ things typ => if s_.Ix < 0 then some false else (if s_.Ix ≥ things then some false else (if typ = 0 then (if (s_.Expr.length : Int) > 0 then some false else (if typ = 0 then r5_SoundList_L1_run lF tF (.c4 elses i) else (r5_SoundExpr tF s_.Expr typ) >>= fun t119 => (if t119 = true then r5_SoundList_L1_run lF tF (.c4 elses i) else some false))) else (if typ = 0 then r5_SoundList_L1_run lF tF (.c4 elses i) else (r5_SoundExpr tF s_.Expr typ) >>= fun t119_1 => (if t119_1 = true then r5_SoundList_L1_run lF tF (.c4 elses i) else some false))))
 | .c4 elses i => r5_SoundList_L1_run lF tF (.c0 elses (w64 (i + 1)))
  partial_fixpoint
def r5_SoundList_L1 (lF : List StmtT) (tF : TypedT) (elses : List Bool) (i : Int) : Option Bool := r5_SoundList_L1_run lF tF (.c0 elses i)
def r5_SoundList_k3 (lF : List StmtT) (tF : TypedT) (elses : List Bool) (i : Int) (s_ : StmtT) (typ : Int) : Option Bool := r5_SoundList_L1_run lF tF (.c1 elses i s_ typ)
def r5_SoundList_k4 (lF : List StmtT) (tF : TypedT) (elses : List Bool) (i : Int) (s_ : StmtT) (typ : Int) : Option Bool := r5_SoundList_L1_run lF tF (.c2 elses i s_ typ)
def r5_SoundList_k2 (lF : List StmtT) (tF : TypedT) (elses : List Bool) (i : Int) (s_ : StmtT) (things : Int) (typ : Int) : Option Bool := r5_SoundList_L1_run lF tF (.c3 elses i s_ things typ)
def r5_SoundList_k5 (lF : List StmtT) (tF : TypedT) (elses : List Bool) (i : Int) : Option Bool := r5_SoundList_L1_run lF tF (.c4 elses i)
theorem r5_SoundList_L1_eq (lF : List StmtT) (tF : TypedT) (elses : List Bool) (i : Int) : r5_SoundList_L1 lF tF elses i = (if i < (lF.length : Int) then (idx lF i) >>= fun t19 => (if t19.Name = (⟨#[]⟩ : ByteArray) then (if t19.At.Line = 0 then (if t19.At.Col = 0 then (if t19.Kind = 1 then r5_SoundList_k2 lF tF elses i t19 (tF.Vars.length : Int) 1 else (if t19.Kind = 2 then r5_SoundList_k3 lF tF elses i t19 0 else (if t19.Kind = 3 then r5_SoundList_k3 lF tF elses i t19 0 else (if t19.Kind = 4 then r5_SoundList_k3 lF tF elses i t19 0 else (if t19.Kind = 5 then r5_SoundList_k4 lF tF elses i t19 0 else (if t19.Kind = 10 then r5_SoundList_k4 lF tF elses i t19 0 else (if t19.Kind = 6 then r5_SoundList_k2 lF tF elses i t19 (tF.Dets.length : Int) 0 else (if t19.Kind = 7 then (app 1 elses [false]) >>= fun t67 => (if (t67.length : Int) > 16 then some false else r5_SoundList_k2 lF tF t67 i t19 1 2) else (if t19.Kind = 8 then (if (elses.length : Int) = 0 then some false else (idx elses (w64 ((elses.length : Int) - 1))) >>= fun t79 => (if t79 = true then some false else (idx elses (w64 ((elses.length : Int) - 1))) >>= fun t85 => (some (elses.set ((w64 ((elses.length : Int) - 1)).toNat) true)) >>= fun l6922 => r5_SoundList_k2 lF tF l6922 i t19 1 0)) else (if t19.Kind = 9 then (if (elses.length : Int) = 0 then some false else (cut elses 0 (w64 ((elses.length : Int) - 1))) >>= fun t93 => r5_SoundList_k2 lF tF t93 i t19 1 0) else some false)))))))))) else some false) else some false) else some false) else some (decide ((elses.length : Int) = 0))) := by
 conv => lhs; unfold r5_SoundList_L1; unfold r5_SoundList_L1_run
 rfl
theorem r5_SoundList_k3_eq (lF : List StmtT) (tF : TypedT) (elses : List Bool) (i : Int) (s_ : StmtT) (typ : Int) : r5_SoundList_k3 lF tF elses i s_ typ = r5_SoundList_k2 lF tF elses i s_ (tF.Timers.length : Int) typ := by
 conv => lhs; unfold r5_SoundList_k3; unfold r5_SoundList_L1_run
 rfl
theorem r5_SoundList_k4_eq (lF : List StmtT) (tF : TypedT) (elses : List Bool) (i : Int) (s_ : StmtT) (typ : Int) : r5_SoundList_k4 lF tF elses i s_ typ = r5_SoundList_k2 lF tF elses i s_ (tF.Counters.length : Int) typ := by
 conv => lhs; unfold r5_SoundList_k4; unfold r5_SoundList_L1_run
 rfl
theorem r5_SoundList_k2_eq (lF : List StmtT) (tF : TypedT) (elses : List Bool) (i : Int) (s_ : StmtT) (things : Int) (typ : Int) : r5_SoundList_k2 lF tF elses i s_ things typ = (if s_.Ix < 0 then some false else (if s_.Ix ≥ things then some false else (if typ = 0 then (if (s_.Expr.length : Int) > 0 then some false else (if typ = 0 then r5_SoundList_k5 lF tF elses i else (r5_SoundExpr tF s_.Expr typ) >>= fun t119 => (if t119 = true then r5_SoundList_k5 lF tF elses i else some false))) else (if typ = 0 then r5_SoundList_k5 lF tF elses i else (r5_SoundExpr tF s_.Expr typ) >>= fun t119_1 => (if t119_1 = true then r5_SoundList_k5 lF tF elses i else some false))))) := by
 conv => lhs; unfold r5_SoundList_k2; unfold r5_SoundList_L1_run
 rfl
theorem r5_SoundList_k5_eq (lF : List StmtT) (tF : TypedT) (elses : List Bool) (i : Int) : r5_SoundList_k5 lF tF elses i = r5_SoundList_L1 lF tF elses (w64 (i + 1)) := by
 conv => lhs; unfold r5_SoundList_k5; unfold r5_SoundList_L1_run
 rfl
def r5_SoundList (t : TypedT) (l : List StmtT) : Option Bool :=
 r5_SoundList_L1 l t [] 0
def r5_nodes_L1 (l : List StmtT) (n_ : Int) (i : Int) : Option Int :=
 if i < (l.length : Int) then (idx l i) >>= fun t14 => r5_nodes_L1 l (w64 (n_ + (t14.Expr.length : Int))) (w64 (i + 1)) else some n_
  partial_fixpoint
def r5_nodes (l : List StmtT) : Option Int :=
 r5_nodes_L1 l 0 0
inductive r5_stages_L1_S where
 | c0 (stmts : Int) (nexts : Int) (total : Int) (i : Int)
 | c1 (stmts : Int) (nexts : Int) (total : Int) (i : Int) (s_ : TStageT)
 | c2 (stmts : Int) (nexts : Int) (total : Int) (i : Int) (s_ : TStageT)
 | c3 (stmts : Int) (nexts : Int) (total : Int) (i : Int) (s_ : TStageT) (j : Int)
def r5_stages_L1_run (tF : TypedT) (st : r5_stages_L1_S) : Option Bool :=
 match st with
 | .c0 stmts nexts total i => if i < (tF.Stages.length : Int) then (idx tF.Stages i) >>= fun t21 => (r5_within t21.Id 0 255) >>= fun t25 => (if t25 = true then (if i > 0 then (idx tF.Stages (w64 (i - 1))) >>= fun t37 => (if t21.Id ≤ t37.Id then some false else r5_stages_L1_run tF (.c1 stmts nexts total i t21)) else r5_stages_L1_run tF (.c1 stmts nexts total i t21)) else some false) else (if stmts ≤ 4096 then (if nexts ≤ 4096 then some (decide (total ≤ 16384)) else some false) else some false)
 | .c1 stmts nexts total i s_ => if (tF.Tables.Groups.length : Int) < 64 then (shrI .u64 s_.Green (tF.Tables.Groups.length : Int)) >>= fun t53 => (if t53 = 0 then r5_stages_L1_run tF (.c2 stmts nexts total i s_) else some false) else r5_stages_L1_run tF (.c2 stmts nexts total i s_)
 | .c2 stmts nexts total i s_ => (r5_SoundList tF s_.Enter) >>= fun t59 => (if t59 = true then (r5_SoundList tF s_.During) >>= fun t65 => (if t65 = true then (r5_SoundList tF s_.Leave) >>= fun t72 => (if t72 = true then (r5_nodes s_.Enter) >>= fun t91 => (r5_nodes s_.During) >>= fun t95 => (r5_nodes s_.Leave) >>= fun t99 => r5_stages_L1_run tF (.c3 (w64 ((w64 ((w64 (stmts + (s_.Enter.length : Int))) + (s_.During.length : Int))) + (s_.Leave.length : Int))) (w64 (nexts + (s_.Nexts.length : Int))) (w64 ((w64 ((w64 (total + t91)) + t95)) + t99)) i s_ 0) else some false) else some false) else some false)
 | .c3 stmts nexts total i s_ j => if j < (s_.Nexts.length : Int) then (idx s_.Nexts j) >>= fun t116 => (if t116.To < 0 then some false else (if t116.To ≥ (tF.Stages.length : Int) then some false else (if t116.To = i then some false else (r5_SoundExpr tF t116.When 2) >>= fun t139 => (if t139 = true then r5_stages_L1_run tF (.c3 stmts nexts (w64 (total + (t116.When.length : Int))) i s_ (w64 (j + 1))) else some false)))) else r5_stages_L1_run tF (.c0 stmts nexts total (w64 (i + 1)))
  partial_fixpoint
def r5_stages_L1 (tF : TypedT) (stmts : Int) (nexts : Int) (total : Int) (i : Int) : Option Bool := r5_stages_L1_run tF (.c0 stmts nexts total i)
def r5_stages_k2 (tF : TypedT) (stmts : Int) (nexts : Int) (total : Int) (i : Int) (s_ : TStageT) : Option Bool := r5_stages_L1_run tF (.c1 stmts nexts total i s_)
def r5_stages_k3 (tF : TypedT) (stmts : Int) (nexts : Int) (total : Int) (i : Int) (s_ : TStageT) : Option Bool := r5_stages_L1_run tF (.c2 stmts nexts total i s_)
def r5_stages_L4 (tF : TypedT) (stmts : Int) (nexts : Int) (total : Int) (i : Int) (s_ : TStageT) (j : Int) : Option Bool := r5_stages_L1_run tF (.c3 stmts nexts total i s_ j)
theorem r5_stages_L1_eq (tF : TypedT) (stmts : Int) (nexts : Int) (total : Int) (i : Int) : r5_stages_L1 tF stmts nexts total i = (if i < (tF.Stages.length : Int) then (idx tF.Stages i) >>= fun t21 => (r5_within t21.Id 0 255) >>= fun t25 => (if t25 = true then (if i > 0 then (idx tF.Stages (w64 (i - 1))) >>= fun t37 => (if t21.Id ≤ t37.Id then some false else r5_stages_k2 tF stmts nexts total i t21) else r5_stages_k2 tF stmts nexts total i t21) else some false) else (if stmts ≤ 4096 then (if nexts ≤ 4096 then some (decide (total ≤ 16384)) else some false) else some false)) := by
 conv => lhs; unfold r5_stages_L1; unfold r5_stages_L1_run
 rfl
theorem r5_stages_k2_eq (tF : TypedT) (stmts : Int) (nexts : Int) (total : Int) (i : Int) (s_ : TStageT) : r5_stages_k2 tF stmts nexts total i s_ = (if (tF.Tables.Groups.length : Int) < 64 then (shrI .u64 s_.Green (tF.Tables.Groups.length : Int)) >>= fun t53 => (if t53 = 0 then r5_stages_k3 tF stmts nexts total i s_ else some false) else r5_stages_k3 tF stmts nexts total i s_) := by
 conv => lhs; unfold r5_stages_k2; unfold r5_stages_L1_run
 rfl
theorem r5_stages_k3_eq (tF : TypedT) (stmts : Int) (nexts : Int) (total : Int) (i : Int) (s_ : TStageT) : r5_stages_k3 tF stmts nexts total i s_ = (r5_SoundList tF s_.Enter) >>= fun t59 => (if t59 = true then (r5_SoundList tF s_.During) >>= fun t65 => (if t65 = true then (r5_SoundList tF s_.Leave) >>= fun t72 => (if t72 = true then (r5_nodes s_.Enter) >>= fun t91 => (r5_nodes s_.During) >>= fun t95 => (r5_nodes s_.Leave) >>= fun t99 => r5_stages_L4 tF (w64 ((w64 ((w64 (stmts + (s_.Enter.length : Int))) + (s_.During.length : Int))) + (s_.Leave.length : Int))) (w64 (nexts + (s_.Nexts.length : Int))) (w64 ((w64 ((w64 (total + t91)) + t95)) + t99)) i s_ 0 else some false) else some false) else some false) := by
 conv => lhs; unfold r5_stages_k3; unfold r5_stages_L1_run
 rfl
theorem r5_stages_L4_eq (tF : TypedT) (stmts : Int) (nexts : Int) (total : Int) (i : Int) (s_ : TStageT) (j : Int) : r5_stages_L4 tF stmts nexts total i s_ j = (if j < (s_.Nexts.length : Int) then (idx s_.Nexts j) >>= fun t116 => (if t116.To < 0 then some false else (if t116.To ≥ (tF.Stages.length : Int) then some false else (if t116.To = i then some false else (r5_SoundExpr tF t116.When 2) >>= fun t139 => (if t139 = true then r5_stages_L4 tF stmts nexts (w64 (total + (t116.When.length : Int))) i s_ (w64 (j + 1)) else some false)))) else r5_stages_L1 tF stmts nexts total (w64 (i + 1))) := by
 conv => lhs; unfold r5_stages_L4; unfold r5_stages_L1_run
 rfl
def r5_stages (t : TypedT) : Option Bool :=
 r5_stages_L1 t 0 0 0 0
def r5_Sound_L1 (t : TypedT) (i : Int) : Option Bool :=
 if i < (t.Dets.length : Int) then (idx t.Dets i) >>= fun t60 => (r5_within t60.Delay 0 3600) >>= fun t63 => (if t63 = true then (idx t.Dets i) >>= fun t69 => (r5_within t69.Hold 0 3600) >>= fun t72 => (if t72 = true then r5_Sound_L1 t (w64 (i + 1)) else some false) else some false) else (r5_unlike [t.Name]) >>= fun t78 => (if t78 = true then (r5_things t) >>= fun t81 => (r5_unlike t81) >>= fun t82 => (if t82 = true then (r5_stages t) >>= fun t86 => some t86 else some false) else some false)
  partial_fixpoint
def r5_Sound (t : TypedT) : Option Bool :=
 (r5_Grid t.Tables) >>= fun t6 => (if t6 = true then (if (t.Dets.length : Int) > 64 then some false else (if (t.Timers.length : Int) > 64 then some false else (if (t.Counters.length : Int) > 64 then some false else (if (t.Vars.length : Int) > 64 then some false else (r5_within (t.Stages.length : Int) 1 256) >>= fun t35 => (if t35 = true then (if t.Start < 0 then some false else (if t.Start ≥ (t.Stages.length : Int) then some false else r5_Sound_L1 t 0)) else some false))))) else some false)
def r5_SameTables_L2 (a : TablesT) (b : TablesT) (i : Int) : Option Bool :=
 if i < (a.Conflicts.length : Int) then (idx a.Conflicts i) >>= fun t51 => (idx b.Conflicts i) >>= fun t56 => (if (!(decide (t51.A = t56.A) && (decide (t51.B = t56.B) && (decide (t51.AB = t56.AB) && (decide (t51.BA = t56.BA) && true))))) = true then some false else r5_SameTables_L2 a b (w64 (i + 1))) else some true
  partial_fixpoint
def r5_SameTables_L1 (a : TablesT) (b : TablesT) (i : Int) : Option Bool :=
 if i < (a.Groups.length : Int) then (idx a.Groups i) >>= fun t33 => (idx b.Groups i) >>= fun t38 => (if (!(decide (t33.Name = t38.Name) && (decide (t33.Sort_ = t38.Sort_) && (decide (t33.Min = t38.Min) && (decide (t33.Amber = t38.Amber) && (decide (t33.Lead = t38.Lead) && true)))))) = true then some false else r5_SameTables_L1 a b (w64 (i + 1))) else r5_SameTables_L2 a b 0
  partial_fixpoint
def r5_SameTables (a : TablesT) (b : TablesT) : Option Bool :=
 if (a.Groups.length : Int) = (b.Groups.length : Int) then (if (a.Conflicts.length : Int) = (b.Conflicts.length : Int) then r5_SameTables_L1 a b 0 else some false) else some false
def r5_SameStrings_L1 (a : List ByteArray) (b : List ByteArray) (i : Int) : Option Bool :=
 if i < (a.length : Int) then (idx a i) >>= fun t19 => (idx b i) >>= fun t23 => (if t19 = t23 then r5_SameStrings_L1 a b (w64 (i + 1)) else some false) else some true
  partial_fixpoint
def r5_SameStrings (a : List ByteArray) (b : List ByteArray) : Option Bool :=
 if (a.length : Int) = (b.length : Int) then r5_SameStrings_L1 a b 0 else some false
def r5_SameStmts_L1 (a : List StmtT) (b : List StmtT) (i : Int) : Option Bool :=
 if i < (a.length : Int) then (idx a i) >>= fun t19 => (idx b i) >>= fun t24 => (if t19.Kind = t24.Kind then (idx a i) >>= fun t31 => (idx b i) >>= fun t36 => (if t31.Name = t36.Name then (idx a i) >>= fun t44 => (idx b i) >>= fun t49 => (if t44.Ix = t49.Ix then (idx a i) >>= fun t57 => (idx b i) >>= fun t62 => (if (!(decide (t57.At.Line = t62.At.Line) && (decide (t57.At.Col = t62.At.Col) && true))) = true then some false else (idx a i) >>= fun t70 => (idx b i) >>= fun t75 => (r5_SameNodes t70.Expr t75.Expr) >>= fun t78 => (if t78 = true then r5_SameStmts_L1 a b (w64 (i + 1)) else some false)) else some false) else some false) else some false) else some true
  partial_fixpoint
def r5_SameStmts (a : List StmtT) (b : List StmtT) : Option Bool :=
 if (a.length : Int) = (b.length : Int) then r5_SameStmts_L1 a b 0 else some false
def r5_sameStage_L1 (a : TStageT) (b : TStageT) (i : Int) : Option Bool :=
 if i < (a.Nexts.length : Int) then (idx a.Nexts i) >>= fun t44 => (idx b.Nexts i) >>= fun t50 => (if t44.To = t50.To then (idx a.Nexts i) >>= fun t58 => (idx b.Nexts i) >>= fun t64 => (r5_SameNodes t58.When t64.When) >>= fun t67 => (if t67 = true then r5_sameStage_L1 a b (w64 (i + 1)) else some false) else some false) else (r5_SameStmts a.Enter b.Enter) >>= fun t74 => (if t74 = true then (r5_SameStmts a.During b.During) >>= fun t80 => (if t80 = true then (r5_SameStmts a.Leave b.Leave) >>= fun t87 => some t87 else some false) else some false)
  partial_fixpoint
def r5_sameStage (a : TStageT) (b : TStageT) : Option Bool :=
 if a.Name = b.Name then (if a.Id = b.Id then (if a.Green = b.Green then (if (a.Nexts.length : Int) = (b.Nexts.length : Int) then r5_sameStage_L1 a b 0 else some false) else some false) else some false) else some false
def r5_SameTyped_L3 (a : TypedT) (b : TypedT) (i : Int) : Option Bool :=
 if i < (a.Stages.length : Int) then (idx a.Stages i) >>= fun t115 => (idx b.Stages i) >>= fun t120 => (r5_sameStage t115 t120) >>= fun t122 => (if t122 = true then r5_SameTyped_L3 a b (w64 (i + 1)) else some false) else some true
  partial_fixpoint
def r5_SameTyped_L2 (a : TypedT) (b : TypedT) (i : Int) : Option Bool :=
 if i < (a.Vars.length : Int) then (idx a.Vars i) >>= fun t97 => (idx b.Vars i) >>= fun t102 => (if (!(decide (t97.Name = t102.Name) && (decide (t97.Init = t102.Init) && true))) = true then some false else r5_SameTyped_L2 a b (w64 (i + 1))) else r5_SameTyped_L3 a b 0
  partial_fixpoint
def r5_SameTyped_L1 (a : TypedT) (b : TypedT) (i : Int) : Option Bool :=
 if i < (a.Dets.length : Int) then (idx a.Dets i) >>= fun t79 => (idx b.Dets i) >>= fun t84 => (if (!(decide (t79.Name = t84.Name) && (decide (t79.Latch = t84.Latch) && (decide (t79.Delay = t84.Delay) && (decide (t79.Hold = t84.Hold) && true))))) = true then some false else r5_SameTyped_L1 a b (w64 (i + 1))) else r5_SameTyped_L2 a b 0
  partial_fixpoint
def r5_SameTyped (a : TypedT) (b : TypedT) : Option Bool :=
 if a.Name = b.Name then (if a.Start = b.Start then (r5_SameTables a.Tables b.Tables) >>= fun t25 => (if t25 = true then (r5_SameStrings a.Timers b.Timers) >>= fun t33 => (if t33 = true then (r5_SameStrings a.Counters b.Counters) >>= fun t41 => (if t41 = true then (if (a.Dets.length : Int) = (b.Dets.length : Int) then (if (a.Vars.length : Int) = (b.Vars.length : Int) then (if (a.Stages.length : Int) = (b.Stages.length : Int) then r5_SameTyped_L1 a b 0 else some false) else some false) else some false) else some false) else some false) else some false) else some false) else some false
def l5_CheckSounds (t : TypedT) (e : List NodeT) (typ : Int) : Option Bool :=
 (r5_Room_Typed t) >>= fun t14 => (r5_Room_Nodes t14.2.2.2.2.2.2.2.2.2.1 t14.2.2.2.2.2.2.2.2.2.2.1 t14.2.2.2.2.2.2.2.2.2.2.2.1 t14.2.2.2.2.2.2.2.2.2.2.2.2.1 t14.2.2.2.2.2.2.2.2.2.2.2.2.2.1 t14.2.2.2.2.2.2.2.2.2.2.2.2.2.2.1 t14.2.2.2.2.2.2.2.2.2.2.2.2.2.2.2.1 t14.2.2.2.2.2.2.2.2.2.2.2.2.2.2.2.2.1 t14.2.2.2.2.2.2.2.2.2.2.2.2.2.2.2.2.2 e) >>= fun t17 => (c_Grid (⟨t14.2.1, t14.2.2.1⟩ : TablesT)) >>= fun t20 => (r5_Grid t.Tables) >>= fun t23 => (if (!(decide (t20 = t23))) = true then some false else (c_Sound (⟨t14.1, (⟨t14.2.1, t14.2.2.1⟩ : TablesT), t14.2.2.2.1, t14.2.2.2.2.1, t14.2.2.2.2.2.1, t14.2.2.2.2.2.2.1, t14.2.2.2.2.2.2.2.1, t14.2.2.2.2.2.2.2.2.1⟩ : TypedT)) >>= fun t27 => (r5_Sound t) >>= fun t29 => (if (!(decide (t27 = t29))) = true then some false else (c_SoundExpr (⟨t14.1, (⟨t14.2.1, t14.2.2.1⟩ : TablesT), t14.2.2.2.1, t14.2.2.2.2.1, t14.2.2.2.2.2.1, t14.2.2.2.2.2.2.1, t14.2.2.2.2.2.2.2.1, t14.2.2.2.2.2.2.2.2.1⟩ : TypedT) t17.1 typ) >>= fun t36 => (r5_SoundExpr t e typ) >>= fun t40 => (if (!(decide (t36 = t40))) = true then some false else (r5_SameTyped (⟨t14.1, (⟨t14.2.1, t14.2.2.1⟩ : TablesT), t14.2.2.2.1, t14.2.2.2.2.1, t14.2.2.2.2.2.1, t14.2.2.2.2.2.2.1, t14.2.2.2.2.2.2.2.1, t14.2.2.2.2.2.2.2.2.1⟩ : TypedT) t) >>= fun t45 => (if t45 = true then (r5_SameNodes t17.1 e) >>= fun t49 => (if t49 = true then (r5_Room_Whole t17.2.1 t17.2.2.1 t17.2.2.2.1 t17.2.2.2.2.1 t17.2.2.2.2.2.1 t17.2.2.2.2.2.2.1 t17.2.2.2.2.2.2.2.1 t17.2.2.2.2.2.2.2.2.1 t17.2.2.2.2.2.2.2.2.2) >>= fun t53 => some t53.1 else some false) else some false))))
end Go.Proofs.YtdcpfmjnkcodiaaDoor.We
