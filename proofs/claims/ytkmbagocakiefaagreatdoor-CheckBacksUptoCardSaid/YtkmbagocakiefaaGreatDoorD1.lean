/- What functions of the program compute, as plain Lean. Printed by decomp.py. -/
import Derived.Test.YtkmbagocakiefaaGreatDoorM4
namespace Go.Proofs.YtkmbagocakiefaaGreatDoor.Wb
open Go Go.Jv
set_option maxHeartbeats 4000000
set_option maxHeartbeats 4000000
structure ak where
 Name : ByteArray
 Sort_ : Int
 Min : Int
 Amber : Int
 Lead : Int
 deriving Inhabited, DecidableEq
def ak.enc (x : ak) : Dat := .agg [(.str x.Name), (.int .i64 x.Sort_), (.int .i64 x.Min), (.int .i64 x.Amber), (.int .i64 x.Lead)]
structure ai where
 A : Int
 B : Int
 AB : Int
 BA : Int
 deriving Inhabited, DecidableEq
def ai.enc (x : ai) : Dat := .agg [(.int .i64 x.A), (.int .i64 x.B), (.int .i64 x.AB), (.int .i64 x.BA)]
structure aI where
 Groups : List ak
 Conflicts : List ai
 deriving Inhabited, DecidableEq
def aI.enc (x : aI) : Dat := .agg [(.lst (x.Groups.map ak.enc)), (.lst (x.Conflicts.map ai.enc))]
structure aE where
 Name : ByteArray
 Latch : Bool
 Delay : Int
 Hold : Int
 deriving Inhabited, DecidableEq
def aE.enc (x : aE) : Dat := .agg [(.str x.Name), (.bool x.Latch), (.int .i64 x.Delay), (.int .i64 x.Hold)]
structure aN where
 Name : ByteArray
 Init : Int
 deriving Inhabited, DecidableEq
def aN.enc (x : aN) : Dat := .agg [(.str x.Name), (.int .i32 x.Init)]
structure bd where
 Line : Int
 Col : Int
 deriving Inhabited, DecidableEq
def bd.enc (x : bd) : Dat := .agg [(.int .i64 x.Line), (.int .i64 x.Col)]
structure ae where
 Op : Int
 Val : Int
 Name : ByteArray
 At : bd
 deriving Inhabited, DecidableEq
def ae.enc (x : ae) : Dat := .agg [(.int .i64 x.Op), (.int .i32 x.Val), (.str x.Name), (.int .i64 x.At.Line), (.int .i64 x.At.Col)]
structure ac where
 Kind : Int
 Name : ByteArray
 Ix : Int
 Expr : List ae
 At : bd
 deriving Inhabited, DecidableEq
def ac.enc (x : ac) : Dat := .agg [(.int .i64 x.Kind), (.str x.Name), (.int .i64 x.Ix), (.lst (x.Expr.map ae.enc)), (.int .i64 x.At.Line), (.int .i64 x.At.Col)]
structure aw where
 To : Int
 When : List ae
 deriving Inhabited, DecidableEq
def aw.enc (x : aw) : Dat := .agg [(.int .i64 x.To), (.lst (x.When.map ae.enc))]
structure ah where
 Name : ByteArray
 Id : Int
 Green : Int
 Enter : List ac
 During : List ac
 Leave : List ac
 Nexts : List aw
 deriving Inhabited, DecidableEq
def ah.enc (x : ah) : Dat := .agg [(.str x.Name), (.int .i64 x.Id), (.int .u64 x.Green), (.lst (x.Enter.map ac.enc)), (.lst (x.During.map ac.enc)), (.lst (x.Leave.map ac.enc)), (.lst (x.Nexts.map aw.enc))]
structure ab where
 Name : ByteArray
 Tables : aI
 Dets : List aE
 Timers : List ByteArray
 Counters : List ByteArray
 Vars : List aN
 Stages : List ah
 Start : Int
 deriving Inhabited, DecidableEq
def ab.enc (x : ab) : Dat := .agg [(.str x.Name), (.lst (x.Tables.Groups.map ak.enc)), (.lst (x.Tables.Conflicts.map ai.enc)), (.lst (x.Dets.map aE.enc)), (.lst (x.Timers.map Dat.str)), (.lst (x.Counters.map Dat.str)), (.lst (x.Vars.map aN.enc)), (.lst (x.Stages.map ah.enc)), (.int .i64 x.Start)]
structure da where
 To : ByteArray
 When : List ae
 At : bd
 deriving Inhabited, DecidableEq
def da.enc (x : da) : Dat := .agg [(.str x.To), (.lst (x.When.map ae.enc)), (.int .i64 x.At.Line), (.int .i64 x.At.Col)]
structure bn where
 Green : List ByteArray
 Enter : List ac
 During : List ac
 Leave : List ac
 Nexts : List da
 deriving Inhabited, DecidableEq
def bn.enc (x : bn) : Dat := .agg [(.lst (x.Green.map Dat.str)), (.lst (x.Enter.map ac.enc)), (.lst (x.During.map ac.enc)), (.lst (x.Leave.map ac.enc)), (.lst (x.Nexts.map da.enc))]
structure aV where
 Kind : Int
 At : bd
 Name : ByteArray
 With : ByteArray
 Sort_ : Int
 N : A3 Int
 Expr : List ae
 Stage : bn
 deriving Inhabited, DecidableEq
def aV.enc (x : aV) : Dat := .agg [(.int .i64 x.Kind), (.int .i64 x.At.Line), (.int .i64 x.At.Col), (.str x.Name), (.str x.With), (.int .i64 x.Sort_), (.int .i32 x.N.e0), (.int .i32 x.N.e1), (.int .i32 x.N.e2), (.lst (x.Expr.map ae.enc)), (.lst (x.Stage.Green.map Dat.str)), (.lst (x.Stage.Enter.map ac.enc)), (.lst (x.Stage.During.map ac.enc)), (.lst (x.Stage.Leave.map ac.enc)), (.lst (x.Stage.Nexts.map da.enc))]
structure aW where
 Name : ByteArray
 Decls : List aV
 deriving Inhabited, DecidableEq
def aW.enc (x : aW) : Dat := .agg [(.str x.Name), (.lst (x.Decls.map aV.enc))]
structure bk where
 unit : ByteArray
 worth : Int
 deriving Inhabited, DecidableEq
structure aP where
 op : Int
 nest : Int
 deriving Inhabited, DecidableEq
def aP.enc (x : aP) : Dat := .agg [(.int .i64 x.op), (.int .i64 x.nest)]
abbrev LL (α : Type) := List (List α)
abbrev R9 := (LL ae) × (LL ac) × (LL aw) × (LL ah) × (LL ak) × (LL ai) × (LL aE) × (LL aN) × (LL ByteArray)
abbrev bw (w : AV) (x : List (List ak)) : Jv.Item := .own w ⟨22, 1⟩ (x.map (eL ak.enc))
abbrev bz (w : AV) (x : List (List ai)) : Jv.Item := .own w ⟨23, 1⟩ (x.map (eL ai.enc))
abbrev bF (w : AV) (x : List (List aE)) : Jv.Item := .own w ⟨26, 1⟩ (x.map (eL aE.enc))
abbrev bL (w : AV) (x : List (List ByteArray)) : Jv.Item := .own w ⟨27, 1⟩ (x.map (eL Dat.str))
abbrev bS (w : AV) (x : List (List ae)) : Jv.Item := .own w ⟨74, 1⟩ (x.map (eL ae.enc))
abbrev bT (w : AV) (x : List (List ac)) : Jv.Item := .own w ⟨69, 1⟩ (x.map (eL ac.enc))
abbrev bU (w : AV) (x : List (List aw)) : Jv.Item := .own w ⟨70, 1⟩ (x.map (eL aw.enc))
abbrev bV (w : AV) (x : List (List aN)) : Jv.Item := .own w ⟨28, 1⟩ (x.map (eL aN.enc))
abbrev br (w : AV) (x : List ac) : Jv.Item := .own w ⟨105, 6⟩ (x.map ac.enc)
abbrev zm (w : AV) (x : List ah) : Jv.Item := .own w ⟨72, 7⟩ (x.map ah.enc)
abbrev cz (w : AV) (x : List (List ah)) : Jv.Item := .own w ⟨29, 1⟩ (x.map (eL ah.enc))
abbrev KJ (w : AV) (x : List aw) : Jv.Item := .own w ⟨76, 2⟩ (x.map aw.enc)
abbrev fx (w : AV) (x : List ByteArray) : Jv.Item := .own w ⟨9, 1⟩ (x.map Dat.str)
abbrev yG (w : AV) (x : List aP) : Jv.Item := .own w ⟨164, 2⟩ (x.map aP.enc)
abbrev gw (w : AV) (x : List Int) : Jv.Item := .own w ⟨3, 1⟩ (x.map (Dat.int .i64))
abbrev yH (w : AV) (x : List Bool) : Jv.Item := .own w ⟨4, 1⟩ (x.map Dat.bool)
abbrev mo (w : AV) (x : List da) : Jv.Item := .own w ⟨118, 4⟩ (x.map da.enc)
abbrev dS (w : AV) (x : List aV) : Jv.Item := .own w ⟨85, 15⟩ (x.map aV.enc)
abbrev iV (w : AV) (x : List ae) : Jv.Item := .own w ⟨107, 5⟩ (x.map ae.enc)
abbrev ak.av (x : ak) : List AV := [.d (.str x.Name), .d (.int .i64 x.Sort_), .d (.int .i64 x.Min), .d (.int .i64 x.Amber), .d (.int .i64 x.Lead)]
abbrev ai.av (x : ai) : List AV := [.d (.int .i64 x.A), .d (.int .i64 x.B), .d (.int .i64 x.AB), .d (.int .i64 x.BA)]
abbrev aI.av (x : aI) : List AV := [.d (.lst (x.Groups.map ak.enc)), .d (.lst (x.Conflicts.map ai.enc))]
abbrev aE.av (x : aE) : List AV := [.d (.str x.Name), .d (.bool x.Latch), .d (.int .i64 x.Delay), .d (.int .i64 x.Hold)]
abbrev aN.av (x : aN) : List AV := [.d (.str x.Name), .d (.int .i32 x.Init)]
abbrev bd.av (x : bd) : List AV := [.d (.int .i64 x.Line), .d (.int .i64 x.Col)]
abbrev ae.av (x : ae) : List AV := [.d (.int .i64 x.Op), .d (.int .i32 x.Val), .d (.str x.Name), .d (.int .i64 x.At.Line), .d (.int .i64 x.At.Col)]
abbrev ac.av (x : ac) : List AV := [.d (.int .i64 x.Kind), .d (.str x.Name), .d (.int .i64 x.Ix), .d (.lst (x.Expr.map ae.enc)), .d (.int .i64 x.At.Line), .d (.int .i64 x.At.Col)]
abbrev aw.av (x : aw) : List AV := [.d (.int .i64 x.To), .d (.lst (x.When.map ae.enc))]
abbrev ah.av (x : ah) : List AV := [.d (.str x.Name), .d (.int .i64 x.Id), .d (.int .u64 x.Green), .d (.lst (x.Enter.map ac.enc)), .d (.lst (x.During.map ac.enc)), .d (.lst (x.Leave.map ac.enc)), .d (.lst (x.Nexts.map aw.enc))]
abbrev ab.av (x : ab) : List AV := [.d (.str x.Name), .d (.lst (x.Tables.Groups.map ak.enc)), .d (.lst (x.Tables.Conflicts.map ai.enc)), .d (.lst (x.Dets.map aE.enc)), .d (.lst (x.Timers.map Dat.str)), .d (.lst (x.Counters.map Dat.str)), .d (.lst (x.Vars.map aN.enc)), .d (.lst (x.Stages.map ah.enc)), .d (.int .i64 x.Start)]
abbrev bn.av (x : bn) : List AV := [.d (.lst (x.Green.map Dat.str)), .d (.lst (x.Enter.map ac.enc)), .d (.lst (x.During.map ac.enc)), .d (.lst (x.Leave.map ac.enc)), .d (.lst (x.Nexts.map da.enc))]
abbrev aV.av (x : aV) : List AV := [.d (.int .i64 x.Kind), .d (.int .i64 x.At.Line), .d (.int .i64 x.At.Col), .d (.str x.Name), .d (.str x.With), .d (.int .i64 x.Sort_), .d (.int .i32 x.N.e0), .d (.int .i32 x.N.e1), .d (.int .i32 x.N.e2), .d (.lst (x.Expr.map ae.enc)), .d (.lst (x.Stage.Green.map Dat.str)), .d (.lst (x.Stage.Enter.map ac.enc)), .d (.lst (x.Stage.During.map ac.enc)), .d (.lst (x.Stage.Leave.map ac.enc)), .d (.lst (x.Stage.Nexts.map da.enc))]
abbrev aW.av (x : aW) : List AV := [.d (.str x.Name), .d (.lst (x.Decls.map aV.enc))]
abbrev aP.av (x : aP) : List AV := [.d (.int .i64 x.op), .d (.int .i64 x.nest)]
def jx : List ByteArray := [⟨#[112, 108, 97, 110]⟩, ⟨#[99, 111, 110, 115, 116]⟩, ⟨#[103, 114, 111, 117, 112]⟩, ⟨#[118, 101, 104, 105, 99, 108, 101]⟩, ⟨#[112, 101, 100, 101, 115, 116, 114, 105, 97, 110]⟩, ⟨#[109, 105, 110]⟩, ⟨#[97, 109, 98, 101, 114]⟩, ⟨#[108, 101, 97, 100]⟩, ⟨#[99, 111, 110, 102, 108, 105, 99, 116]⟩, ⟨#[100, 101, 116, 101, 99, 116, 111, 114]⟩, ⟨#[108, 97, 116, 99, 104]⟩, ⟨#[100, 101, 108, 97, 121]⟩, ⟨#[104, 111, 108, 100]⟩, ⟨#[116, 105, 109, 101, 114]⟩, ⟨#[99, 111, 117, 110, 116, 101, 114]⟩, ⟨#[118, 97, 114]⟩, ⟨#[99, 111, 110, 100]⟩, ⟨#[115, 116, 97, 114, 116]⟩, ⟨#[115, 116, 97, 103, 101]⟩, ⟨#[103, 114, 101, 101, 110]⟩, ⟨#[101, 110, 116, 101, 114]⟩, ⟨#[100, 117, 114, 105, 110, 103]⟩, ⟨#[108, 101, 97, 118, 101]⟩, ⟨#[110, 101, 120, 116]⟩, ⟨#[119, 104, 101, 110]⟩, ⟨#[114, 101, 115, 101, 116]⟩, ⟨#[114, 117, 110]⟩, ⟨#[115, 116, 111, 112]⟩, ⟨#[99, 111, 117, 110, 116]⟩, ⟨#[99, 108, 101, 97, 114]⟩, ⟨#[105, 102]⟩, ⟨#[101, 108, 115, 101]⟩, ⟨#[111, 114]⟩, ⟨#[97, 110, 100]⟩, ⟨#[110, 111, 116]⟩, ⟨#[116, 114, 117, 101]⟩, ⟨#[102, 97, 108, 115, 101]⟩, ⟨#[101, 108, 97, 112, 115, 101, 100]⟩, ⟨#[114, 101, 100]⟩, ⟨#[109, 97, 120]⟩, ⟨#[97, 98, 115]⟩]
def jy : List ByteArray := [⟨#[123]⟩, ⟨#[125]⟩, ⟨#[40]⟩, ⟨#[41]⟩, ⟨#[44]⟩, ⟨#[59]⟩, ⟨#[61]⟩, ⟨#[61, 61]⟩, ⟨#[33, 61]⟩, ⟨#[60]⟩, ⟨#[60, 61]⟩, ⟨#[62]⟩, ⟨#[62, 61]⟩, ⟨#[43]⟩, ⟨#[45]⟩, ⟨#[42]⟩, ⟨#[47]⟩, ⟨#[37]⟩]
def bY : List ByteArray := [⟨#[112, 108, 97, 110]⟩, ⟨#[99, 111, 110, 115, 116]⟩, ⟨#[103, 114, 111, 117, 112]⟩, ⟨#[118, 101, 104, 105, 99, 108, 101]⟩, ⟨#[112, 101, 100, 101, 115, 116, 114, 105, 97, 110]⟩, ⟨#[109, 105, 110]⟩, ⟨#[97, 109, 98, 101, 114]⟩, ⟨#[108, 101, 97, 100]⟩, ⟨#[99, 111, 110, 102, 108, 105, 99, 116]⟩, ⟨#[100, 101, 116, 101, 99, 116, 111, 114]⟩, ⟨#[108, 97, 116, 99, 104]⟩, ⟨#[100, 101, 108, 97, 121]⟩, ⟨#[104, 111, 108, 100]⟩, ⟨#[116, 105, 109, 101, 114]⟩, ⟨#[99, 111, 117, 110, 116, 101, 114]⟩, ⟨#[118, 97, 114]⟩, ⟨#[99, 111, 110, 100]⟩, ⟨#[115, 116, 97, 114, 116]⟩, ⟨#[115, 116, 97, 103, 101]⟩, ⟨#[103, 114, 101, 101, 110]⟩, ⟨#[101, 110, 116, 101, 114]⟩, ⟨#[100, 117, 114, 105, 110, 103]⟩, ⟨#[108, 101, 97, 118, 101]⟩, ⟨#[110, 101, 120, 116]⟩, ⟨#[119, 104, 101, 110]⟩, ⟨#[114, 101, 115, 101, 116]⟩, ⟨#[114, 117, 110]⟩, ⟨#[115, 116, 111, 112]⟩, ⟨#[99, 111, 117, 110, 116]⟩, ⟨#[99, 108, 101, 97, 114]⟩, ⟨#[105, 102]⟩, ⟨#[101, 108, 115, 101]⟩, ⟨#[111, 114]⟩, ⟨#[97, 110, 100]⟩, ⟨#[110, 111, 116]⟩, ⟨#[116, 114, 117, 101]⟩, ⟨#[102, 97, 108, 115, 101]⟩, ⟨#[101, 108, 97, 112, 115, 101, 100]⟩, ⟨#[114, 101, 100]⟩, ⟨#[109, 97, 120]⟩, ⟨#[97, 98, 115]⟩]
def bI : List ByteArray := [⟨#[123]⟩, ⟨#[125]⟩, ⟨#[40]⟩, ⟨#[41]⟩, ⟨#[44]⟩, ⟨#[59]⟩, ⟨#[61]⟩, ⟨#[61, 61]⟩, ⟨#[33, 61]⟩, ⟨#[60]⟩, ⟨#[60, 61]⟩, ⟨#[62]⟩, ⟨#[62, 61]⟩, ⟨#[43]⟩, ⟨#[45]⟩, ⟨#[42]⟩, ⟨#[47]⟩, ⟨#[37]⟩]
def fb : List Int := [0, 0, 0, 0, 0, 0, 0, 0, 0, 0, 0, 0, 0, 0, 0, 0, 0, 0, 0, 0, 1, 1, 1, 0, 0, 0, 0, 0, 0, 0, 2, 2, 2, 2, 2, 2, 2, 0, 0, 0, 2, 2, 2, 2, 2, 2, 0, 0, 0, 0, 2, 2]
def lx (t : aI) : Option ((List ak) × (List ai) × (LL ak) × (LL ai)) :=
 (app 48 [] t.Groups) >>= fun t13 => (app 48 t13 [(⟨⟨#[]⟩, 0, 4444, 0, 0⟩ : ak), (⟨⟨#[]⟩, 0, 4444, 0, 0⟩ : ak)]) >>= fun t17 => (app 32 [] t.Conflicts) >>= fun t20 => (app 32 t20 [(⟨4444, 0, 0, 0⟩ : ai), (⟨4444, 0, 0, 0⟩ : ai)]) >>= fun t24 => (app 24 [] [t17]) >>= fun t32 => (app 24 [] [t24]) >>= fun t42 => (cut t17 0 (t.Groups.length : Int)) >>= fun t49 => (cut t24 0 (t.Conflicts.length : Int)) >>= fun t54 => some (t49, t54, t32, t42)
def od (groups : LL ak) (pairs : LL ai) (l : List aE) : Option ((List aE) × (LL ak) × (LL ai) × (LL aE)) :=
 (app 40 [] l) >>= fun t9 => (app 40 t9 [(⟨⟨#[]⟩, false, 4444, 0⟩ : aE), (⟨⟨#[]⟩, false, 4444, 0⟩ : aE)]) >>= fun t13 => (app 24 [] [t13]) >>= fun t21 => (cut t13 0 (l.length : Int)) >>= fun t27 => some (t27, groups, pairs, t21)
def kg (groups : LL ak) (pairs : LL ai) (dets : LL aE) (texts : LL ByteArray) (l : List ByteArray) : Option ((List ByteArray) × (LL ak) × (LL ai) × (LL aE) × (LL ByteArray)) :=
 (app 16 [] l) >>= fun t7 => (app 16 t7 [⟨#[114, 111, 111, 109]⟩, ⟨#[114, 111, 111, 109]⟩]) >>= fun t9 => (app 24 texts [t9]) >>= fun t17 => (cut t9 0 (l.length : Int)) >>= fun t23 => some (t23, groups, pairs, dets, t17)
def gS (nodes : LL ae) (stmts : LL ac) (tnexts : LL aw) (groups : LL ak) (pairs : LL ai) (dets : LL aE) (vars : LL aN) (texts : LL ByteArray) (e : List ae) : Option ((List ae) × (LL ae) × (LL ac) × (LL aw) × (LL ak) × (LL ai) × (LL aE) × (LL aN) × (LL ByteArray)) :=
 (app 48 [] e) >>= fun t9 => (app 48 t9 [(⟨4444, 0, ⟨#[]⟩, (⟨0, 0⟩ : bd)⟩ : ae), (⟨4444, 0, ⟨#[]⟩, (⟨0, 0⟩ : bd)⟩ : ae)]) >>= fun t13 => (app 24 nodes [t13]) >>= fun t21 => (cut t13 0 (e.length : Int)) >>= fun t27 => some (t27, t21, stmts, tnexts, groups, pairs, dets, vars, texts)
inductive kY where
 | c0 (nodes : LL ae) (stmts : LL ac) (tnexts : LL aw) (groups : LL ak) (pairs : LL ai) (dets : LL aE) (vars : LL aN) (texts : LL ByteArray) (full : List ac) (i : Int)
def fy (l : List ac) (Kind : Int) (Name : ByteArray) (Ix : Int) (At_Line : Int) (At_Col : Int) (st : kY) : Option ((List ac) × (LL ae) × (LL ac) × (LL aw) × (LL ak) × (LL ai) × (LL aE) × (LL aN) × (LL ByteArray)) :=
 match st with
 | .c0 nodes stmts tnexts groups pairs dets vars texts full i => if i < (l.length : Int) then (idx l i) >>= fun t18 => (gS nodes stmts tnexts groups pairs dets vars texts t18.Expr) >>= fun t23 => (app 72 full [(⟨t18.Kind, t18.Name, t18.Ix, t23.1, t18.At⟩ : ac)]) >>= fun t28 => fy l Kind Name Ix At_Line At_Col (.c0 t23.2.1 t23.2.2.1 t23.2.2.2.1 t23.2.2.2.2.1 t23.2.2.2.2.2.1 t23.2.2.2.2.2.2.1 t23.2.2.2.2.2.2.2.1 t23.2.2.2.2.2.2.2.2 t28 (w64 (i + 1))) else (app 72 full [(⟨Kind, Name, Ix, [], (⟨At_Line, At_Col⟩ : bd)⟩ : ac), (⟨Kind, Name, Ix, [], (⟨At_Line, At_Col⟩ : bd)⟩ : ac)]) >>= fun t33 => (app 24 stmts [t33]) >>= fun t41 => (cut t33 0 (l.length : Int)) >>= fun t47 => some (t47, nodes, t41, tnexts, groups, pairs, dets, vars, texts)
  partial_fixpoint
def fX (nodes : LL ae) (stmts : LL ac) (tnexts : LL aw) (groups : LL ak) (pairs : LL ai) (dets : LL aE) (vars : LL aN) (texts : LL ByteArray) (l : List ac) (Kind : Int) (Name : ByteArray) (Ix : Int) (At_Line : Int) (At_Col : Int) (full : List ac) (i : Int) : Option ((List ac) × (LL ae) × (LL ac) × (LL aw) × (LL ak) × (LL ai) × (LL aE) × (LL aN) × (LL ByteArray)) := fy l Kind Name Ix At_Line At_Col (.c0 nodes stmts tnexts groups pairs dets vars texts full i)
theorem oO (nodes stmts tnexts groups pairs dets vars texts l Kind Name Ix At_Line At_Col full i) : fX nodes stmts tnexts groups pairs dets vars texts l Kind Name Ix At_Line At_Col full i = (if i < (l.length : Int) then (idx l i) >>= fun t18 => (gS nodes stmts tnexts groups pairs dets vars texts t18.Expr) >>= fun t23 => (app 72 full [(⟨t18.Kind, t18.Name, t18.Ix, t23.1, t18.At⟩ : ac)]) >>= fun t28 => fX t23.2.1 t23.2.2.1 t23.2.2.2.1 t23.2.2.2.2.1 t23.2.2.2.2.2.1 t23.2.2.2.2.2.2.1 t23.2.2.2.2.2.2.2.1 t23.2.2.2.2.2.2.2.2 l Kind Name Ix At_Line At_Col t28 (w64 (i + 1)) else (app 72 full [(⟨Kind, Name, Ix, [], (⟨At_Line, At_Col⟩ : bd)⟩ : ac), (⟨Kind, Name, Ix, [], (⟨At_Line, At_Col⟩ : bd)⟩ : ac)]) >>= fun t33 => (app 24 stmts [t33]) >>= fun t41 => (cut t33 0 (l.length : Int)) >>= fun t47 => some (t47, nodes, t41, tnexts, groups, pairs, dets, vars, texts)) := by
 conv => lhs; unfold fX; unfold fy
 rfl
def fO (nodes : LL ae) (stmts : LL ac) (tnexts : LL aw) (groups : LL ak) (pairs : LL ai) (dets : LL aE) (vars : LL aN) (texts : LL ByteArray) (l : List ac) : Option ((List ac) × (LL ae) × (LL ac) × (LL aw) × (LL ak) × (LL ai) × (LL aE) × (LL aN) × (LL ByteArray)) :=
 fX nodes stmts tnexts groups pairs dets vars texts l 4444 ⟨#[]⟩ 0 0 0 [] 0
inductive kZ where
 | c0 (nodes : LL ae) (stmts : LL ac) (tnexts : LL aw) (groups : LL ak) (pairs : LL ai) (dets : LL aE) (vars : LL aN) (texts : LL ByteArray) (full : List ah) (i : Int)
 | c1 (nodes : LL ae) (stmts : LL ac) (tnexts : LL aw) (groups : LL ak) (pairs : LL ai) (dets : LL aE) (vars : LL aN) (texts : LL ByteArray) (full : List ah) (i : Int) (Name2 : ByteArray) (Id : Int) (Green : Int) (Enter : List ac) (During : List ac) (Leave : List ac) (Nexts : List aw) (To : Int) (nexts : List aw) (j : Int)
def cA (tF : ab) (NameF : ByteArray) (StartF : Int) (Name1F : ByteArray) (Tables_GroupsF : List ak) (Tables_ConflictsF : List ai) (DetsF : List aE) (TimersF : List ByteArray) (CountersF : List ByteArray) (VarsF : List aN) (Start1F : Int) (st : kZ) : Option (ByteArray × (List ak) × (List ai) × (List aE) × (List ByteArray) × (List ByteArray) × (List aN) × (List ah) × Int × R9) :=
 match st with
 | .c0 nodes stmts tnexts groups pairs dets vars texts full i => if i < (tF.Stages.length : Int) then (idx tF.Stages i) >>= fun t70 => (fO nodes stmts tnexts groups pairs dets vars texts t70.Enter) >>= fun t75 => (fO t75.2.1 t75.2.2.1 t75.2.2.2.1 t75.2.2.2.2.1 t75.2.2.2.2.2.1 t75.2.2.2.2.2.2.1 t75.2.2.2.2.2.2.2.1 t75.2.2.2.2.2.2.2.2 t70.During) >>= fun t80 => (fO t80.2.1 t80.2.2.1 t80.2.2.2.1 t80.2.2.2.2.1 t80.2.2.2.2.2.1 t80.2.2.2.2.2.2.1 t80.2.2.2.2.2.2.2.1 t80.2.2.2.2.2.2.2.2 t70.Leave) >>= fun t85 => cA tF NameF StartF Name1F Tables_GroupsF Tables_ConflictsF DetsF TimersF CountersF VarsF Start1F (.c1 t85.2.1 t85.2.2.1 t85.2.2.2.1 t85.2.2.2.2.1 t85.2.2.2.2.2.1 t85.2.2.2.2.2.2.1 t85.2.2.2.2.2.2.2.1 t85.2.2.2.2.2.2.2.2 full i t70.Name t70.Id t70.Green t75.1 t80.1 t85.1 t70.Nexts 4444 [] 0) else (app 128 full [(⟨⟨#[]⟩, 4444, 0, [], [], [], []⟩ : ah), (⟨⟨#[]⟩, 4444, 0, [], [], [], []⟩ : ah)]) >>= fun t143 => (app 24 [] [t143]) >>= fun t151 => (cut t143 0 (tF.Stages.length : Int)) >>= fun t158 => some (Name1F, Tables_GroupsF, Tables_ConflictsF, DetsF, TimersF, CountersF, VarsF, t158, Start1F, nodes, stmts, tnexts, t151, groups, pairs, dets, vars, texts)
 | .c1 nodes stmts tnexts groups pairs dets vars texts full i Name2 Id Green Enter During Leave Nexts To nexts j => if j < (Nexts.length : Int) then (idx Nexts j) >>= fun t99 => (idx Nexts j) >>= fun t106 => (gS nodes stmts tnexts groups pairs dets vars texts t106.When) >>= fun t109 => (app 32 nexts [(⟨t99.To, t109.1⟩ : aw)]) >>= fun t112 => cA tF NameF StartF Name1F Tables_GroupsF Tables_ConflictsF DetsF TimersF CountersF VarsF Start1F (.c1 t109.2.1 t109.2.2.1 t109.2.2.2.1 t109.2.2.2.2.1 t109.2.2.2.2.2.1 t109.2.2.2.2.2.2.1 t109.2.2.2.2.2.2.2.1 t109.2.2.2.2.2.2.2.2 full i Name2 Id Green Enter During Leave Nexts To t112 (w64 (j + 1))) else (app 32 nexts [(⟨To, []⟩ : aw), (⟨To, []⟩ : aw)]) >>= fun t117 => (app 24 tnexts [t117]) >>= fun t125 => (cut t117 0 (w64 ((t117.length : Int) - 2))) >>= fun t132 => (app 128 full [(⟨Name2, Id, Green, Enter, During, Leave, t132⟩ : ah)]) >>= fun t137 => cA tF NameF StartF Name1F Tables_GroupsF Tables_ConflictsF DetsF TimersF CountersF VarsF Start1F (.c0 nodes stmts t125 groups pairs dets vars texts t137 (w64 (i + 1)))
  partial_fixpoint
def dT (nodes : LL ae) (stmts : LL ac) (tnexts : LL aw) (groups : LL ak) (pairs : LL ai) (dets : LL aE) (vars : LL aN) (texts : LL ByteArray) (tF : ab) (NameF : ByteArray) (StartF : Int) (Name1F : ByteArray) (Tables_GroupsF : List ak) (Tables_ConflictsF : List ai) (DetsF : List aE) (TimersF : List ByteArray) (CountersF : List ByteArray) (VarsF : List aN) (Start1F : Int) (full : List ah) (i : Int) : Option (ByteArray × (List ak) × (List ai) × (List aE) × (List ByteArray) × (List ByteArray) × (List aN) × (List ah) × Int × R9) := cA tF NameF StartF Name1F Tables_GroupsF Tables_ConflictsF DetsF TimersF CountersF VarsF Start1F (.c0 nodes stmts tnexts groups pairs dets vars texts full i)
def fY (nodes : LL ae) (stmts : LL ac) (tnexts : LL aw) (groups : LL ak) (pairs : LL ai) (dets : LL aE) (vars : LL aN) (texts : LL ByteArray) (tF : ab) (NameF : ByteArray) (StartF : Int) (Name1F : ByteArray) (Tables_GroupsF : List ak) (Tables_ConflictsF : List ai) (DetsF : List aE) (TimersF : List ByteArray) (CountersF : List ByteArray) (VarsF : List aN) (Start1F : Int) (full : List ah) (i : Int) (Name2 : ByteArray) (Id : Int) (Green : Int) (Enter : List ac) (During : List ac) (Leave : List ac) (Nexts : List aw) (To : Int) (nexts : List aw) (j : Int) : Option (ByteArray × (List ak) × (List ai) × (List aE) × (List ByteArray) × (List ByteArray) × (List aN) × (List ah) × Int × R9) := cA tF NameF StartF Name1F Tables_GroupsF Tables_ConflictsF DetsF TimersF CountersF VarsF Start1F (.c1 nodes stmts tnexts groups pairs dets vars texts full i Name2 Id Green Enter During Leave Nexts To nexts j)
theorem oP (nodes stmts tnexts groups pairs dets vars texts tF NameF StartF Name1F Tables_GroupsF Tables_ConflictsF DetsF TimersF CountersF VarsF Start1F full i) : dT nodes stmts tnexts groups pairs dets vars texts tF NameF StartF Name1F Tables_GroupsF Tables_ConflictsF DetsF TimersF CountersF VarsF Start1F full i = (if i < (tF.Stages.length : Int) then (idx tF.Stages i) >>= fun t70 => (fO nodes stmts tnexts groups pairs dets vars texts t70.Enter) >>= fun t75 => (fO t75.2.1 t75.2.2.1 t75.2.2.2.1 t75.2.2.2.2.1 t75.2.2.2.2.2.1 t75.2.2.2.2.2.2.1 t75.2.2.2.2.2.2.2.1 t75.2.2.2.2.2.2.2.2 t70.During) >>= fun t80 => (fO t80.2.1 t80.2.2.1 t80.2.2.2.1 t80.2.2.2.2.1 t80.2.2.2.2.2.1 t80.2.2.2.2.2.2.1 t80.2.2.2.2.2.2.2.1 t80.2.2.2.2.2.2.2.2 t70.Leave) >>= fun t85 => fY t85.2.1 t85.2.2.1 t85.2.2.2.1 t85.2.2.2.2.1 t85.2.2.2.2.2.1 t85.2.2.2.2.2.2.1 t85.2.2.2.2.2.2.2.1 t85.2.2.2.2.2.2.2.2 tF NameF StartF Name1F Tables_GroupsF Tables_ConflictsF DetsF TimersF CountersF VarsF Start1F full i t70.Name t70.Id t70.Green t75.1 t80.1 t85.1 t70.Nexts 4444 [] 0 else (app 128 full [(⟨⟨#[]⟩, 4444, 0, [], [], [], []⟩ : ah), (⟨⟨#[]⟩, 4444, 0, [], [], [], []⟩ : ah)]) >>= fun t143 => (app 24 [] [t143]) >>= fun t151 => (cut t143 0 (tF.Stages.length : Int)) >>= fun t158 => some (Name1F, Tables_GroupsF, Tables_ConflictsF, DetsF, TimersF, CountersF, VarsF, t158, Start1F, nodes, stmts, tnexts, t151, groups, pairs, dets, vars, texts)) := by
 conv => lhs; unfold dT; unfold cA
 rfl
theorem oQ (nodes stmts tnexts groups pairs dets vars texts tF NameF StartF Name1F Tables_GroupsF Tables_ConflictsF DetsF TimersF CountersF VarsF Start1F full i Name2 Id Green Enter During Leave Nexts To nexts j) : fY nodes stmts tnexts groups pairs dets vars texts tF NameF StartF Name1F Tables_GroupsF Tables_ConflictsF DetsF TimersF CountersF VarsF Start1F full i Name2 Id Green Enter During Leave Nexts To nexts j = (if j < (Nexts.length : Int) then (idx Nexts j) >>= fun t99 => (idx Nexts j) >>= fun t106 => (gS nodes stmts tnexts groups pairs dets vars texts t106.When) >>= fun t109 => (app 32 nexts [(⟨t99.To, t109.1⟩ : aw)]) >>= fun t112 => fY t109.2.1 t109.2.2.1 t109.2.2.2.1 t109.2.2.2.2.1 t109.2.2.2.2.2.1 t109.2.2.2.2.2.2.1 t109.2.2.2.2.2.2.2.1 t109.2.2.2.2.2.2.2.2 tF NameF StartF Name1F Tables_GroupsF Tables_ConflictsF DetsF TimersF CountersF VarsF Start1F full i Name2 Id Green Enter During Leave Nexts To t112 (w64 (j + 1)) else (app 32 nexts [(⟨To, []⟩ : aw), (⟨To, []⟩ : aw)]) >>= fun t117 => (app 24 tnexts [t117]) >>= fun t125 => (cut t117 0 (w64 ((t117.length : Int) - 2))) >>= fun t132 => (app 128 full [(⟨Name2, Id, Green, Enter, During, Leave, t132⟩ : ah)]) >>= fun t137 => dT nodes stmts t125 groups pairs dets vars texts tF NameF StartF Name1F Tables_GroupsF Tables_ConflictsF DetsF TimersF CountersF VarsF Start1F t137 (w64 (i + 1))) := by
 conv => lhs; unfold fY; unfold cA
 rfl
def mF (t : ab) : Option (ByteArray × (List ak) × (List ai) × (List aE) × (List ByteArray) × (List ByteArray) × (List aN) × (List ah) × Int × R9) :=
 (lx t.Tables) >>= fun t22 => (od t22.2.2.1 t22.2.2.2 t.Dets) >>= fun t26 => (kg t26.2.1 t26.2.2.1 t26.2.2.2 [] t.Timers) >>= fun t30 => (kg t30.2.1 t30.2.2.1 t30.2.2.2.1 t30.2.2.2.2 t.Counters) >>= fun t34 => (app 24 [] t.Vars) >>= fun t39 => (app 24 t39 [(⟨⟨#[]⟩, 4444⟩ : aN), (⟨⟨#[]⟩, 4444⟩ : aN)]) >>= fun t43 => (app 24 [] [t43]) >>= fun t51 => (cut t43 0 (t.Vars.length : Int)) >>= fun t58 => dT [] [] [] t34.2.1 t34.2.2.1 t34.2.2.2.1 t51 t34.2.2.2.2 t ⟨#[]⟩ 0 t.Name t22.1 t22.2.1 t26.1 t30.1 t34.1 t58 t.Start [] 0
def jV (n_ : Int) (lo : Int) (hi : Int) : Option Bool :=
 if n_ ≥ lo then some (decide (n_ ≤ hi)) else some false
inductive um where
 | c0 (a : Int) (b : Int) (t46 : Int)
 | c1 (c : ai) (t46 : Int)
def eQ (tF : aI) (t44F : List ai) (t45F : Int) (st : um) : Option Bool :=
 match st with
 | .c0 a b t46 => if t46 < t45F then (idx t44F t46) >>= fun t48 => (if t48.A < 0 then some false else (if t48.B ≤ t48.A then some false else (if t48.B ≥ (tF.Groups.length : Int) then some false else (jV t48.AB 0 3600) >>= fun t71 => (if t71 = true then (jV t48.BA 0 3600) >>= fun t77 => (if t77 = true then (if t48.A < a then some false else (if t48.A = a then (if t48.B ≤ b then some false else eQ tF t44F t45F (.c1 t48 t46)) else eQ tF t44F t45F (.c1 t48 t46))) else some false) else some false)))) else some true
 | .c1 c t46 => eQ tF t44F t45F (.c0 c.A c.B (w64 (t46 + 1)))
  partial_fixpoint
def iW (tF : aI) (a : Int) (b : Int) (t44F : List ai) (t45F : Int) (t46 : Int) : Option Bool := eQ tF t44F t45F (.c0 a b t46)
def qk (tF : aI) (c : ai) (t44F : List ai) (t45F : Int) (t46 : Int) : Option Bool := eQ tF t44F t45F (.c1 c t46)
theorem ss (tF a b t44F t45F t46) : iW tF a b t44F t45F t46 = (if t46 < t45F then (idx t44F t46) >>= fun t48 => (if t48.A < 0 then some false else (if t48.B ≤ t48.A then some false else (if t48.B ≥ (tF.Groups.length : Int) then some false else (jV t48.AB 0 3600) >>= fun t71 => (if t71 = true then (jV t48.BA 0 3600) >>= fun t77 => (if t77 = true then (if t48.A < a then some false else (if t48.A = a then (if t48.B ≤ b then some false else qk tF t48 t44F t45F t46) else qk tF t48 t44F t45F t46)) else some false) else some false)))) else some true) := by
 conv => lhs; unfold iW; unfold eQ
 rfl
theorem yI (tF c t44F t45F t46) : qk tF c t44F t45F t46 = iW tF c.A c.B t44F t45F (w64 (t46 + 1)) := by
 conv => lhs; unfold qk; unfold eQ
 rfl
def gx (t : aI) (t14 : List ak) (t15 : Int) (t16 : Int) : Option Bool :=
 if t16 < t15 then (idx t14 t16) >>= fun t18 => (jV t18.Sort_ 1 2) >>= fun t22 => (if t22 = true then (jV t18.Min 1 3600) >>= fun t27 => (if t27 = true then (jV t18.Amber 0 60) >>= fun t33 => (if t33 = true then (jV t18.Lead 0 60) >>= fun t39 => (if t39 = true then gx t t14 t15 (w64 (t16 + 1)) else some false) else some false) else some false) else some false) else iW t (-1) (-1) t.Conflicts (t.Conflicts.length : Int) 0
  partial_fixpoint
def yJ (t : aI) : Option Bool :=
 if (t.Groups.length : Int) > 64 then some false else gx t t.Groups (t.Groups.length : Int) 0
def gb (l : List ByteArray) (t71 : List ah) (t72 : Int) (t73 : Int) (t : ab) : Option (List ByteArray) :=
 if t73 < t72 then (idx t71 t73) >>= fun t75 => (app 16 l [t75.Name]) >>= fun t81 => gb t81 t71 t72 (w64 (t73 + 1)) t else some l
  partial_fixpoint
def gd (t : ab) (l : List ByteArray) (t56 : List aN) (t57 : Int) (t58 : Int) : Option (List ByteArray) :=
 if t58 < t57 then (idx t56 t58) >>= fun t60 => (app 16 l [t60.Name]) >>= fun t66 => gd t t66 t56 t57 (w64 (t58 + 1)) else gb l t.Stages (t.Stages.length : Int) 0 t
  partial_fixpoint
def ge (t : ab) (l : List ByteArray) (t41 : List aE) (t42 : Int) (t43 : Int) : Option (List ByteArray) :=
 if t43 < t42 then (idx t41 t43) >>= fun t45 => (app 16 l [t45.Name]) >>= fun t51 => ge t t51 t41 t42 (w64 (t43 + 1)) else gd t l t.Vars (t.Vars.length : Int) 0
  partial_fixpoint
def gf (t : ab) (l : List ByteArray) (t26 : List ak) (t27 : Int) (t28 : Int) : Option (List ByteArray) :=
 if t28 < t27 then (idx t26 t28) >>= fun t30 => (app 16 l [t30.Name]) >>= fun t36 => gf t t36 t26 t27 (w64 (t28 + 1)) else ge t l t.Dets (t.Dets.length : Int) 0
  partial_fixpoint
def vW (t : ab) : Option (List ByteArray) :=
 (app 16 [] t.Timers) >>= fun t16 => (app 16 t16 t.Counters) >>= fun t21 => gf t t21 t.Tables.Groups (t.Tables.Groups.length : Int) 0
def gh (text : ByteArray) (t19 : Int) : Option Int :=
 if t19 < 18 then (idx bI t19) >>= fun t22 => (if t22 = text then some (w64 (60 + t19)) else gh text (w64 (t19 + 1))) else some 0
  partial_fixpoint
def gi (text : ByteArray) (t8 : Int) : Option Int :=
 if t8 < 41 then (idx bY t8) >>= fun t11 => (if t11 = text then some (w64 (10 + t8)) else gi text (w64 (t8 + 1))) else gh text 0
  partial_fixpoint
def su (text : ByteArray) : Option Int :=
 gi text 0
def ly (c : Int) : Option Bool :=
 if c ≥ 97 then (if c ≤ 122 then some true else (if c ≥ 65 then some (decide (c ≤ 90)) else some false)) else (if c ≥ 65 then some (decide (c ≤ 90)) else some false)
def nA (c : Int) : Option Bool :=
 if c ≥ 48 then some (decide (c ≤ 57)) else some false
def ql (c : Int) : Option Bool :=
 (ly c) >>= fun t4 => (if t4 = true then some true else (nA c) >>= fun t7 => (if t7 = true then some true else some (decide (c = 95))))
def iY (s_ : ByteArray) (n_ : Int) : Option Int :=
 if n_ < (s_.size : Int) then (fp s_ n_) >>= fun t11 => (ql t11) >>= fun t12 => (if t12 = true then iY s_ (w64 (n_ + 1)) else some n_) else some n_
  partial_fixpoint
def De (s_ : ByteArray) : Option Int :=
 iY s_ 0
inductive oe where
 | c0 (under : Bool) (v : Int) (i : Int)
 | c1 (under : Bool) (v : Int) (i : Int) (d : Int) (c : Int)
 | c2 (under : Bool) (v : Int) (i : Int) (d : Int) (c : Int)
 | c3 (under : Bool) (v : Int) (i : Int) (d : Int)
 | c4 (under : Bool) (v : Int) (i : Int)
def aT (s_F : ByteArray) (baseF : Int) (st : oe) : Option (Int × Bool) :=
 match st with
 | .c0 under v i => if i < (s_F.size : Int) then (fp s_F i) >>= fun t20 => (nA t20) >>= fun t23 => (if t23 = true then aT s_F baseF (.c3 under v i (w64 (IntKind.u8.wrap (t20 - 48)))) else (if t20 ≥ 97 then (if t20 ≤ 102 then aT s_F baseF (.c3 under v i (w64 ((w64 (IntKind.u8.wrap (t20 - 97))) + 10))) else aT s_F baseF (.c1 under v i 99 t20)) else aT s_F baseF (.c1 under v i 99 t20))) else some (v, !decide (s_F = (⟨#[]⟩ : ByteArray)))
 | .c1 under v i d c => if c ≥ 65 then (if c ≤ 70 then aT s_F baseF (.c3 under v i (w64 ((w64 (IntKind.u8.wrap (c - 65))) + 10))) else aT s_F baseF (.c2 under v i d c)) else aT s_F baseF (.c2 under v i d c)
 | .c2 under v i d c => if c = 95 then (if under = true then (if i > 0 then (if (w64 (i + 1)) < (s_F.size : Int) then (fp s_F (w64 (i - 1))) >>= fun t70 => (if t70 = 95 then aT s_F baseF (.c3 true v i d) else aT s_F baseF (.c4 true v i)) else aT s_F baseF (.c3 true v i d)) else aT s_F baseF (.c3 true v i d)) else aT s_F baseF (.c3 false v i d)) else aT s_F baseF (.c3 under v i d)
 | .c3 under v i d => if d ≥ baseF then some (0, false) else aT s_F baseF (.c4 under (if 1099511627776 < (w64 ((w64 (v * baseF)) + d)) then 1099511627776 else (w64 ((w64 (v * baseF)) + d))) i)
 | .c4 under v i => aT s_F baseF (.c0 under v (w64 (i + 1)))
  partial_fixpoint
def iJ (s_F : ByteArray) (baseF : Int) (under : Bool) (v : Int) (i : Int) : Option (Int × Bool) := aT s_F baseF (.c0 under v i)
def kh (s_F : ByteArray) (baseF : Int) (under : Bool) (v : Int) (i : Int) (d : Int) (c : Int) : Option (Int × Bool) := aT s_F baseF (.c1 under v i d c)
def ki (s_F : ByteArray) (baseF : Int) (under : Bool) (v : Int) (i : Int) (d : Int) (c : Int) : Option (Int × Bool) := aT s_F baseF (.c2 under v i d c)
def dz (s_F : ByteArray) (baseF : Int) (under : Bool) (v : Int) (i : Int) (d : Int) : Option (Int × Bool) := aT s_F baseF (.c3 under v i d)
def kj (s_F : ByteArray) (baseF : Int) (under : Bool) (v : Int) (i : Int) : Option (Int × Bool) := aT s_F baseF (.c4 under v i)
theorem sw (s_F baseF under v i) : iJ s_F baseF under v i = (if i < (s_F.size : Int) then (fp s_F i) >>= fun t20 => (nA t20) >>= fun t23 => (if t23 = true then dz s_F baseF under v i (w64 (IntKind.u8.wrap (t20 - 48))) else (if t20 ≥ 97 then (if t20 ≤ 102 then dz s_F baseF under v i (w64 ((w64 (IntKind.u8.wrap (t20 - 97))) + 10)) else kh s_F baseF under v i 99 t20) else kh s_F baseF under v i 99 t20)) else some (v, !decide (s_F = (⟨#[]⟩ : ByteArray)))) := by
 conv => lhs; unfold iJ; unfold aT
 rfl
theorem AQ (s_F baseF under v i d c) : kh s_F baseF under v i d c = (if c ≥ 65 then (if c ≤ 70 then dz s_F baseF under v i (w64 ((w64 (IntKind.u8.wrap (c - 65))) + 10)) else ki s_F baseF under v i d c) else ki s_F baseF under v i d c) := by
 conv => lhs; unfold kh; unfold aT
 rfl
theorem AR (s_F baseF under v i d c) : ki s_F baseF under v i d c = (if c = 95 then (if under = true then (if i > 0 then (if (w64 (i + 1)) < (s_F.size : Int) then (fp s_F (w64 (i - 1))) >>= fun t70 => (if t70 = 95 then dz s_F baseF true v i d else kj s_F baseF true v i) else dz s_F baseF true v i d) else dz s_F baseF true v i d) else dz s_F baseF false v i d) else dz s_F baseF under v i d) := by
 conv => lhs; unfold ki; unfold aT
 rfl
theorem AS (s_F baseF under v i d) : dz s_F baseF under v i d = (if d ≥ baseF then some (0, false) else kj s_F baseF under (if 1099511627776 < (w64 ((w64 (v * baseF)) + d)) then 1099511627776 else (w64 ((w64 (v * baseF)) + d))) i) := by
 conv => lhs; unfold dz; unfold aT
 rfl
theorem AT (s_F baseF under v i) : kj s_F baseF under v i = iJ s_F baseF under v (w64 (i + 1)) := by
 conv => lhs; unfold kj; unfold aT
 rfl
def lz (s_ : ByteArray) (base : Int) (under : Bool) : Option (Int × Bool) :=
 iJ s_ base under 0 0
def sy (s_ : ByteArray) (prefix_ : ByteArray) : Option Bool :=
 if (s_.size : Int) ≥ (prefix_.size : Int) then (rK s_ 0 (prefix_.size : Int)) >>= fun t14 => some (decide (t14 = prefix_)) else some false
def sA (s_ : ByteArray) (prefix_ : ByteArray) : Option (ByteArray × Bool) :=
 (sy s_ prefix_) >>= fun t8 => (if t8 = true then (rK s_ (prefix_.size : Int) s_.size) >>= fun t14 => some (t14, true) else some (s_, false))
def jq (s_ : ByteArray) (prefix_ : ByteArray) : Option (ByteArray × Bool) :=
 (sA s_ prefix_) >>= fun t8 => some (t8.1, t8.2)
def la (a0 : ByteArray) (a1 : Int) : Option Int := Ce a0 a1
def sB (s_ : ByteArray) (c : Int) : Option Int :=
 (la s_ c) >>= fun t7 => some t7
def vX (s_ : ByteArray) (substr : ByteArray) : Option Int :=
 if (substr.size : Int) = 0 then some 0 else (if substr = s_ then some 0 else (if (substr.size : Int) = 1 then (fp substr 0) >>= fun t29 => (sB s_ t29) >>= fun t30 => some t30 else (if (substr.size : Int) ≥ (s_.size : Int) then some (-1) else none)))
def FP (s_ : ByteArray) (sep : ByteArray) : Option (ByteArray × ByteArray × Bool) :=
 (vX s_ sep) >>= fun t10 => (if t10 ≥ 0 then (rK s_ 0 t10) >>= fun t15 => (rK s_ (w64 (t10 + (sep.size : Int))) s_.size) >>= fun t21 => some (t15, t21, true) else some (s_, ⟨#[]⟩, false))
def mq (s_ : ByteArray) (sep : ByteArray) : Option (ByteArray × ByteArray × Bool) :=
 (FP s_ sep) >>= fun t9 => some (t9.1, t9.2.1, t9.2.2)
inductive lU where
 | c0 (s_ : ByteArray) (v : Int) (any : Bool) (t16 : Int)
 | c1 (s_ : ByteArray) (v : Int) (any : Bool) (u : bk) (head : ByteArray) (rest : ByteArray) (ok : Bool) (t16 : Int)
 | c2 (v : Int) (u : bk) (rest : ByteArray) (ok : Bool) (n_ : Int) (t16 : Int)
 | c3 (s_ : ByteArray) (v : Int) (any : Bool) (t16 : Int)
def bo (e0_unitF : ByteArray) (e0_worthF : Int) (e1_unitF : ByteArray) (e1_worthF : Int) (e2_unitF : ByteArray) (e2_worthF : Int) (st : lU) : Option (Int × Bool) :=
 match st with
 | .c0 s_ v any t16 => if t16 < 3 then (A3.get (⟨(⟨e0_unitF, e0_worthF⟩ : bk), (⟨e1_unitF, e1_worthF⟩ : bk), (⟨e2_unitF, e2_worthF⟩ : bk)⟩ : (A3 bk)) t16) >>= fun t18 => (mq s_ t18.unit) >>= fun t23 => (if t23.2.2 = true then bo e0_unitF e0_worthF e1_unitF e1_worthF e2_unitF e2_worthF (.c1 s_ v any t18 t23.1 t23.2.1 true t16) else bo e0_unitF e0_worthF e1_unitF e1_worthF e2_unitF e2_worthF (.c1 s_ v any t18 t23.1 t23.2.1 false t16)) else (if any = true then some (v, decide (s_ = (⟨#[]⟩ : ByteArray))) else some (v, false))
 | .c1 s_ v any u head rest ok t16 => if (!ok) = true then bo e0_unitF e0_worthF e1_unitF e1_worthF e2_unitF e2_worthF (.c3 s_ v any t16) else (lz head 10 false) >>= fun t31 => (if t31.2 = true then bo e0_unitF e0_worthF e1_unitF e1_worthF e2_unitF e2_worthF (.c2 v u rest true t31.1 t16) else bo e0_unitF e0_worthF e1_unitF e1_worthF e2_unitF e2_worthF (.c2 v u rest false t31.1 t16))
 | .c2 v u rest ok n_ t16 => if (!ok) = true then some (0, false) else bo e0_unitF e0_worthF e1_unitF e1_worthF e2_unitF e2_worthF (.c3 rest (w64 (v + (w64 (n_ * u.worth)))) true t16)
 | .c3 s_ v any t16 => bo e0_unitF e0_worthF e1_unitF e1_worthF e2_unitF e2_worthF (.c0 s_ v any (w64 (t16 + 1)))
  partial_fixpoint
def gN (s_ : ByteArray) (v : Int) (any : Bool) (e0_unitF : ByteArray) (e0_worthF : Int) (e1_unitF : ByteArray) (e1_worthF : Int) (e2_unitF : ByteArray) (e2_worthF : Int) (t16 : Int) : Option (Int × Bool) := bo e0_unitF e0_worthF e1_unitF e1_worthF e2_unitF e2_worthF (.c0 s_ v any t16)
def iZ (s_ : ByteArray) (v : Int) (any : Bool) (u : bk) (head : ByteArray) (rest : ByteArray) (ok : Bool) (e0_unitF : ByteArray) (e0_worthF : Int) (e1_unitF : ByteArray) (e1_worthF : Int) (e2_unitF : ByteArray) (e2_worthF : Int) (t16 : Int) : Option (Int × Bool) := bo e0_unitF e0_worthF e1_unitF e1_worthF e2_unitF e2_worthF (.c1 s_ v any u head rest ok t16)
def ja (v : Int) (u : bk) (rest : ByteArray) (ok : Bool) (n_ : Int) (e0_unitF : ByteArray) (e0_worthF : Int) (e1_unitF : ByteArray) (e1_worthF : Int) (e2_unitF : ByteArray) (e2_worthF : Int) (t16 : Int) : Option (Int × Bool) := bo e0_unitF e0_worthF e1_unitF e1_worthF e2_unitF e2_worthF (.c2 v u rest ok n_ t16)
def jb (s_ : ByteArray) (v : Int) (any : Bool) (e0_unitF : ByteArray) (e0_worthF : Int) (e1_unitF : ByteArray) (e1_worthF : Int) (e2_unitF : ByteArray) (e2_worthF : Int) (t16 : Int) : Option (Int × Bool) := bo e0_unitF e0_worthF e1_unitF e1_worthF e2_unitF e2_worthF (.c3 s_ v any t16)
theorem qm (s_ v any e0_unitF e0_worthF e1_unitF e1_worthF e2_unitF e2_worthF t16) : gN s_ v any e0_unitF e0_worthF e1_unitF e1_worthF e2_unitF e2_worthF t16 = (if t16 < 3 then (A3.get (⟨(⟨e0_unitF, e0_worthF⟩ : bk), (⟨e1_unitF, e1_worthF⟩ : bk), (⟨e2_unitF, e2_worthF⟩ : bk)⟩ : (A3 bk)) t16) >>= fun t18 => (mq s_ t18.unit) >>= fun t23 => (if t23.2.2 = true then iZ s_ v any t18 t23.1 t23.2.1 true e0_unitF e0_worthF e1_unitF e1_worthF e2_unitF e2_worthF t16 else iZ s_ v any t18 t23.1 t23.2.1 false e0_unitF e0_worthF e1_unitF e1_worthF e2_unitF e2_worthF t16) else (if any = true then some (v, decide (s_ = (⟨#[]⟩ : ByteArray))) else some (v, false))) := by
 conv => lhs; unfold gN; unfold bo
 rfl
theorem yK (s_ v any u head rest ok e0_unitF e0_worthF e1_unitF e1_worthF e2_unitF e2_worthF t16) : iZ s_ v any u head rest ok e0_unitF e0_worthF e1_unitF e1_worthF e2_unitF e2_worthF t16 = (if (!ok) = true then jb s_ v any e0_unitF e0_worthF e1_unitF e1_worthF e2_unitF e2_worthF t16 else (lz head 10 false) >>= fun t31 => (if t31.2 = true then ja v u rest true t31.1 e0_unitF e0_worthF e1_unitF e1_worthF e2_unitF e2_worthF t16 else ja v u rest false t31.1 e0_unitF e0_worthF e1_unitF e1_worthF e2_unitF e2_worthF t16)) := by
 conv => lhs; unfold iZ; unfold bo
 rfl
theorem yL (v u rest ok n_ e0_unitF e0_worthF e1_unitF e1_worthF e2_unitF e2_worthF t16) : ja v u rest ok n_ e0_unitF e0_worthF e1_unitF e1_worthF e2_unitF e2_worthF t16 = (if (!ok) = true then some (0, false) else jb rest (w64 (v + (w64 (n_ * u.worth)))) true e0_unitF e0_worthF e1_unitF e1_worthF e2_unitF e2_worthF t16) := by
 conv => lhs; unfold ja; unfold bo
 rfl
theorem yM (s_ v any e0_unitF e0_worthF e1_unitF e1_worthF e2_unitF e2_worthF t16) : jb s_ v any e0_unitF e0_worthF e1_unitF e1_worthF e2_unitF e2_worthF t16 = gN s_ v any e0_unitF e0_worthF e1_unitF e1_worthF e2_unitF e2_worthF (w64 (t16 + 1)) := by
 conv => lhs; unfold jb; unfold bo
 rfl
def yN (s_ : ByteArray) : Option (Int × Bool) :=
 gN s_ 0 false ⟨#[104]⟩ 3600 ⟨#[109]⟩ 60 ⟨#[115]⟩ 1 0
def fP (v : Int) (ok : Bool) : Option (Int × Int) :=
 if (!ok) = true then some (0, 22) else (if v > 2147483647 then some (0, 23) else some ((IntKind.i32.wrap v), 0))
def kl (text : ByteArray) (hex : ByteArray) (is : Bool) : Option (Int × Int) :=
 if is = true then (lz hex 16 true) >>= fun t23 => (if t23.2 = true then fP t23.1 true else fP t23.1 false) else (yN text) >>= fun t28 => (if t28.2 = true then fP t28.1 true else fP t28.1 false)
def kn (text : ByteArray) (v : Int) (ok : Bool) : Option (Int × Int) :=
 if (!ok) = true then (jq text ⟨#[48, 120]⟩) >>= fun t17 => (if t17.2 = true then kl text t17.1 true else kl text t17.1 false) else fP v ok
def rp (text : ByteArray) : Option (Int × Int) :=
 (lz text 10 true) >>= fun t10 => (if t10.2 = true then kn text t10.1 true else kn text t10.1 false)
def ko (text : ByteArray) : Option Int :=
 (rp text) >>= fun t30 => (if t30.2 = 0 then some 2 else some (-1))
def gY (text : ByteArray) : Option Int :=
 (su text) >>= fun t7 => (if t7 = 0 then (if text = (⟨#[]⟩ : ByteArray) then some (-1) else (fp text 0) >>= fun t14 => (ly t14) >>= fun t15 => (if t15 = true then (if (text.size : Int) ≤ 32 then (De text) >>= fun t23 => (if t23 = (text.size : Int) then some 1 else ko text) else ko text) else ko text)) else some t7)
inductive sC where
 | c0 (seen : List (ByteArray × Int)) (t12 : Int)
 | c1 (seen : List (ByteArray × Int)) (i : Int) (s_ : ByteArray) (twice : Bool) (t12 : Int)
def ed (tF : ab) (t10F : List ByteArray) (t11F : Int) (st : sC) : Option Bool :=
 match st with
 | .c0 seen t12 => if t12 < t11F then (idx t10F t12) >>= fun t15 => (if (pj seen t15).isSome = true then ed tF t10F t11F (.c1 seen t12 t15 true t12) else ed tF t10F t11F (.c1 seen t12 t15 false t12)) else (gY tF.Name) >>= fun t37 => some (decide (t37 = 1))
 | .c1 seen i s_ twice t12 => if twice = true then some false else (gY s_) >>= fun t26 => (if t26 = 1 then ed tF t10F t11F (.c0 (yk seen s_ i) (w64 (t12 + 1))) else some false)
  partial_fixpoint
def lA (tF : ab) (seen : List (ByteArray × Int)) (t10F : List ByteArray) (t11F : Int) (t12 : Int) : Option Bool := ed tF t10F t11F (.c0 seen t12)
def rq (tF : ab) (seen : List (ByteArray × Int)) (i : Int) (s_ : ByteArray) (twice : Bool) (t10F : List ByteArray) (t11F : Int) (t12 : Int) : Option Bool := ed tF t10F t11F (.c1 seen i s_ twice t12)
theorem wA (tF seen t10F t11F t12) : lA tF seen t10F t11F t12 = (if t12 < t11F then (idx t10F t12) >>= fun t15 => (if (pj seen t15).isSome = true then rq tF seen t12 t15 true t10F t11F t12 else rq tF seen t12 t15 false t10F t11F t12) else (gY tF.Name) >>= fun t37 => some (decide (t37 = 1))) := by
 conv => lhs; unfold lA; unfold ed
 rfl
theorem wB (tF seen i s_ twice t10F t11F t12) : rq tF seen i s_ twice t10F t11F t12 = (if twice = true then some false else (gY s_) >>= fun t26 => (if t26 = 1 then lA tF (yk seen s_ i) t10F t11F (w64 (t12 + 1)) else some false)) := by
 conv => lhs; unfold rq; unfold ed
 rfl
def zn (t : ab) : Option Bool :=
 (vW t) >>= fun t10 => lA t [] t10 (t10.length : Int) 0
def gZ (n_ : Int) (t34 : List aw) (t35 : Int) (t36 : Int) : Option Int :=
 if t36 < t35 then (idx t34 t36) >>= fun t38 => gZ (w64 (n_ + (t38.When.length : Int))) t34 t35 (w64 (t36 + 1)) else some n_
  partial_fixpoint
inductive sD where
 | c0 (n_ : Int) (t17 : Int)
 | c1 (n_ : Int) (t17 : Int) (t20 : List ac) (t21 : Int) (t22 : Int)
def ee (s_F : ah) (t16F : A3 (List ac)) (st : sD) : Option Int :=
 match st with
 | .c0 n_ t17 => if t17 < 3 then (A3.get t16F t17) >>= fun t19 => ee s_F t16F (.c1 n_ t17 t19 (t19.length : Int) 0) else gZ n_ s_F.Nexts (s_F.Nexts.length : Int) 0
 | .c1 n_ t17 t20 t21 t22 => if t22 < t21 then (idx t20 t22) >>= fun t24 => ee s_F t16F (.c1 (w64 (n_ + (t24.Expr.length : Int))) t17 t20 t21 (w64 (t22 + 1))) else ee s_F t16F (.c0 n_ (w64 (t17 + 1)))
  partial_fixpoint
def lB (s_F : ah) (n_ : Int) (t16F : A3 (List ac)) (t17 : Int) : Option Int := ee s_F t16F (.c0 n_ t17)
def jc (s_F : ah) (n_ : Int) (t16F : A3 (List ac)) (t17 : Int) (t20 : List ac) (t21 : Int) (t22 : Int) : Option Int := ee s_F t16F (.c1 n_ t17 t20 t21 t22)
theorem mH (s_F n_ t16F t17) : lB s_F n_ t16F t17 = (if t17 < 3 then (A3.get t16F t17) >>= fun t19 => jc s_F n_ t16F t17 t19 (t19.length : Int) 0 else gZ n_ s_F.Nexts (s_F.Nexts.length : Int) 0) := by
 conv => lhs; unfold lB; unfold ee
 rfl
theorem wC (s_F n_ t16F t17 t20 t21 t22) : jc s_F n_ t16F t17 t20 t21 t22 = (if t22 < t21 then (idx t20 t22) >>= fun t24 => jc s_F (w64 (n_ + (t24.Expr.length : Int))) t16F t17 t20 t21 (w64 (t22 + 1)) else lB s_F n_ t16F (w64 (t17 + 1))) := by
 conv => lhs; unfold jc; unfold ee
 rfl
def zo (s_ : ah) : Option Int :=
 lB s_ 0 (⟨s_.Enter, s_.During, s_.Leave⟩ : (A3 (List ac))) 0
def lC (op : Int) : Option Int :=
 if op ≥ 0 then (if op < 52 then (idx fb op) >>= fun t19 => (if t19 > 0 then (idx fb op) >>= fun t24 => some t24 else some (-1)) else some (-1)) else some (-1)
def jm (op : Int) : Option Int :=
 if op ≥ 1 then (if op ≤ 10 then some 0 else lC op) else lC op
def gy (e : List ae) (wanted : Int) (j : Int) : Option Int :=
 if j ≥ 0 then (idx e j) >>= fun t23 => (jm t23.Op) >>= fun t26 => (if t26 < 0 then some (-1) else (if (w64 (wanted + (w64 (t26 - 1)))) = 0 then some j else gy e (w64 (wanted + (w64 (t26 - 1)))) (w64 (j - 1)))) else some (-1)
  partial_fixpoint
def qn (e : List ae) (i : Int) : Option Int :=
 if i < 0 then some (-1) else (if i ≥ (e.length : Int) then some (-1) else gy e 1 i)
def mI (op : Int) : Option Int :=
 if op = 30 then some 5 else (if op = 31 then some 5 else (if op = 32 then some 6 else (if op = 33 then some 6 else (if op = 34 then some 6 else (if op = 20 then some 7 else some 8)))))
def jd (op : Int) : Option Int :=
 if op = 51 then some 1 else (if op = 50 then some 2 else (if op = 21 then some 3 else (if op ≥ 40 then (if op ≤ 45 then some 4 else mI op) else mI op)))
def sE (op : Int) (t2 : A2 Int) : Option (A2 Int) :=
 (jd op) >>= fun t11 => some (⟨t11, 0⟩ : (A2 Int))
def lb (t2 : A2 Int) : Option (A2 Int) :=
 some (⟨1, 1⟩ : (A2 Int))
def og (op : Int) (t2 : A2 Int) : Option (A2 Int) :=
 if op = 22 then lb t2 else (if op = 35 then lb t2 else (if op = 36 then lb t2 else (jd op) >>= fun t34 => (jd op) >>= fun t36 => some (⟨t34, (w64 (t36 + 1))⟩ : (A2 Int))))
def lc (op : Int) : Option (A2 Int) :=
 if op = 21 then sE op (⟨0, 0⟩ : (A2 Int)) else (if op = 20 then sE op (⟨0, 0⟩ : (A2 Int)) else (if op ≥ 40 then (if op ≤ 45 then some (⟨5, 5⟩ : (A2 Int)) else og op (⟨0, 0⟩ : (A2 Int))) else og op (⟨0, 0⟩ : (A2 Int))))
inductive pp where
 | c0 (stack : List aP) (t20 : Int)
 | c1 (stack : List aP) (n_ : ae) (k : Int) (d : aP) (want : A2 Int) (t20 : Int) (t38lo : Int) (t39 : Int) (t40 : Int)
 | c2 (stack : List aP) (n_ : ae) (k : Int) (d : aP) (want : A2 Int) (nest : Int) (t20 : Int) (t38lo : Int) (t39 : Int) (t40 : Int)
 | c3 (stack : List aP) (d : aP) (t20 : Int)
 | c4 (stack : List aP) (d : aP) (t20 : Int)
def bb (t18F : List ae) (t19F : Int) (st : pp) : Option Int :=
 match st with
 | .c0 stack t20 => if t20 < t19F then (idx t18F t20) >>= fun t22 => (jm t22.Op) >>= fun t26 => (lc t22.Op) >>= fun t32 => (cut stack (w64 ((stack.length : Int) - t26)) stack.length) >>= fun _ => bb t18F t19F (.c1 stack t22 t26 (⟨t22.Op, 0⟩ : aP) t32 t20 (w64 ((stack.length : Int) - t26)) ((stack.drop (w64 ((stack.length : Int) - t26)).toNat).length : Int) 0) else (idx stack 0) >>= fun t86 => some t86.nest
 | .c1 stack n_ k d want t20 t38lo t39 t40 => if t40 < t39 then (idx (stack.drop t38lo.toNat) t40) >>= fun t43 => (jd t43.op) >>= fun t49 => (A2.get want t40) >>= fun t51 => (if t49 < t51 then bb t18F t19F (.c2 stack n_ k d want (w64 (t43.nest + 1)) t20 t38lo t39 t40) else bb t18F t19F (.c2 stack n_ k d want t43.nest t20 t38lo t39 t40)) else (cut stack 0 (w64 ((stack.length : Int) - k))) >>= fun t67 => (if n_.Op = 20 then bb t18F t19F (.c3 t67 d t20) else (if n_.Op = 21 then bb t18F t19F (.c3 t67 d t20) else (if n_.Op = 22 then bb t18F t19F (.c3 t67 d t20) else (if n_.Op = 35 then bb t18F t19F (.c3 t67 d t20) else (if n_.Op = 36 then bb t18F t19F (.c3 t67 d t20) else bb t18F t19F (.c4 t67 d t20))))))
 | .c2 stack n_ k d want nest t20 t38lo t39 t40 => bb t18F t19F (.c1 stack n_ k (⟨d.op, (if nest > d.nest then nest else d.nest)⟩ : aP) want t20 t38lo t39 (w64 (t40 + 1)))
 | .c3 stack d t20 => bb t18F t19F (.c4 stack (⟨d.op, (w64 (d.nest + 1))⟩ : aP) t20)
 | .c4 stack d t20 => (app 16 stack [d]) >>= fun t83 => bb t18F t19F (.c0 t83 (w64 (t20 + 1)))
  partial_fixpoint
def gz (stack : List aP) (t18F : List ae) (t19F : Int) (t20 : Int) : Option Int := bb t18F t19F (.c0 stack t20)
def ix (stack : List aP) (n_ : ae) (k : Int) (d : aP) (want : A2 Int) (t18F : List ae) (t19F : Int) (t20 : Int) (t38lo : Int) (t39 : Int) (t40 : Int) : Option Int := bb t18F t19F (.c1 stack n_ k d want t20 t38lo t39 t40)
def oh (stack : List aP) (n_ : ae) (k : Int) (d : aP) (want : A2 Int) (nest : Int) (t18F : List ae) (t19F : Int) (t20 : Int) (t38lo : Int) (t39 : Int) (t40 : Int) : Option Int := bb t18F t19F (.c2 stack n_ k d want nest t20 t38lo t39 t40)
def iy (stack : List aP) (d : aP) (t18F : List ae) (t19F : Int) (t20 : Int) : Option Int := bb t18F t19F (.c3 stack d t20)
def ld (stack : List aP) (d : aP) (t18F : List ae) (t19F : Int) (t20 : Int) : Option Int := bb t18F t19F (.c4 stack d t20)
theorem tH (stack t18F t19F t20) : gz stack t18F t19F t20 = (if t20 < t19F then (idx t18F t20) >>= fun t22 => (jm t22.Op) >>= fun t26 => (lc t22.Op) >>= fun t32 => (cut stack (w64 ((stack.length : Int) - t26)) stack.length) >>= fun _ => ix stack t22 t26 (⟨t22.Op, 0⟩ : aP) t32 t18F t19F t20 (w64 ((stack.length : Int) - t26)) ((stack.drop (w64 ((stack.length : Int) - t26)).toNat).length : Int) 0 else (idx stack 0) >>= fun t86 => some t86.nest) := by
 conv => lhs; unfold gz; unfold bb
 rfl
theorem tJ (stack n_ k d want t18F t19F t20 t38lo t39 t40) : ix stack n_ k d want t18F t19F t20 t38lo t39 t40 = (if t40 < t39 then (idx (stack.drop t38lo.toNat) t40) >>= fun t43 => (jd t43.op) >>= fun t49 => (A2.get want t40) >>= fun t51 => (if t49 < t51 then oh stack n_ k d want (w64 (t43.nest + 1)) t18F t19F t20 t38lo t39 t40 else oh stack n_ k d want t43.nest t18F t19F t20 t38lo t39 t40) else (cut stack 0 (w64 ((stack.length : Int) - k))) >>= fun t67 => (if n_.Op = 20 then iy t67 d t18F t19F t20 else (if n_.Op = 21 then iy t67 d t18F t19F t20 else (if n_.Op = 22 then iy t67 d t18F t19F t20 else (if n_.Op = 35 then iy t67 d t18F t19F t20 else (if n_.Op = 36 then iy t67 d t18F t19F t20 else ld t67 d t18F t19F t20)))))) := by
 conv => lhs; unfold ix; unfold bb
 rfl
theorem Cn (stack n_ k d want nest t18F t19F t20 t38lo t39 t40) : oh stack n_ k d want nest t18F t19F t20 t38lo t39 t40 = ix stack n_ k (⟨d.op, (if nest > d.nest then nest else d.nest)⟩ : aP) want t18F t19F t20 t38lo t39 (w64 (t40 + 1)) := by
 conv => lhs; unfold oh; unfold bb
 rfl
theorem Co (stack d t18F t19F t20) : iy stack d t18F t19F t20 = ld stack (⟨d.op, (w64 (d.nest + 1))⟩ : aP) t18F t19F t20 := by
 conv => lhs; unfold iy; unfold bb
 rfl
theorem Cp (stack d t18F t19F t20) : ld stack d t18F t19F t20 = (app 16 stack [d]) >>= fun t83 => gz t83 t18F t19F (w64 (t20 + 1)) := by
 conv => lhs; unfold ld; unfold bb
 rfl
def tK (e : List ae) : Option Int :=
 (qn e (w64 ((e.length : Int) - 1))) >>= fun t16 => (if t16 = 0 then gz [] e (e.length : Int) 0 else some (-1))
def lD (v : Int) (n_ : Int) : Option Bool :=
 if v ≥ 0 then some (decide ((w64 v) < n_)) else some false
def lE (t : ab) (n_ : ae) : Option Bool :=
 (lD n_.Val (t.Tables.Groups.length : Int)) >>= fun t25 => some t25
def pq (t : ab) (n_ : ae) : Option Bool :=
 if n_.Op = 1 then some true else (if n_.Op = 2 then (lD n_.Val 2) >>= fun t13 => some t13 else (if n_.Op = 5 then lE t n_ else (if n_.Op = 6 then lE t n_ else (if n_.Op = 7 then (lD n_.Val (t.Vars.length : Int)) >>= fun t35 => some t35 else (if n_.Op = 8 then (lD n_.Val (t.Timers.length : Int)) >>= fun t45 => some t45 else (if n_.Op = 9 then (lD n_.Val (t.Counters.length : Int)) >>= fun t55 => some t55 else (if n_.Op = 10 then (lD n_.Val (t.Dets.length : Int)) >>= fun t65 => some t65 else (if n_.Op = 3 then some false else some (decide (n_.Val = 0))))))))))
def kp (a : Int) : Option Int :=
 if a = 1 then some 1 else some 0
def kq (a : Int) (b : Int) : Option Int :=
 if a = b then some 2 else some 0
def gT (a : Int) (b : Int) : Option Int :=
 if a = 1 then (if b = 1 then some 2 else some 0) else some 0
def kr (a : Int) (b : Int) : Option Int :=
 if a = 2 then (if b = 2 then some 2 else some 0) else some 0
def hG (op : Int) (a : Int) (b : Int) : Option Int :=
 if op = 20 then kp a else (if op = 22 then kp a else (if op = 21 then (if a = 2 then some 2 else some 0) else (if op = 40 then kq a b else (if op = 41 then kq a b else (if op = 42 then gT a b else (if op = 43 then gT a b else (if op = 44 then gT a b else (if op = 45 then gT a b else (if op = 50 then kr a b else (if op = 51 then kr a b else (if a = 1 then (if b = 1 then some 1 else some 0) else some 0)))))))))))
def mr (stack : List Int) (op : Int) (a : Int) (b : Int) (n_ : Int) : Option ((List Int) × Bool) :=
 (hG op a b) >>= fun t36 => (cut stack 0 n_) >>= fun t39 => (app 8 t39 [t36]) >>= fun t42 => some (t42, !decide (t36 = 0))
def pu (stack : List Int) (op : Int) : Option ((List Int) × Bool) :=
 if op < 30 then (idx stack (w64 ((stack.length : Int) - 1))) >>= fun t17 => mr stack op t17 0 (w64 ((stack.length : Int) - 1)) else (idx stack (w64 ((stack.length : Int) - 2))) >>= fun t24 => (idx stack (w64 ((stack.length : Int) - 1))) >>= fun t29 => mr stack op t24 t29 (w64 ((stack.length : Int) - 2))
inductive nh where
 | c0 (stack : List Int) (t35 : Int)
 | c1 (stack : List Int) (t35 : Int)
 | c2 (stack : List Int) (t35 : Int)
 | c3 (stack : List Int) (ok : Bool) (t35 : Int)
 | c4 (stack : List Int) (t35 : Int)
def aO (typF : Int) (tF : ab) (t33F : List ae) (t34F : Int) (st : nh) : Option Bool :=
 match st with
 | .c0 stack t35 => if t35 < t34F then (idx t33F t35) >>= fun t37 => (if t37.Name = (⟨#[]⟩ : ByteArray) then (if (!(decide (t37.At.Line = 0) && (decide (t37.At.Col = 0) && true))) = true then some false else (pq tF t37) >>= fun t50 => (if (!t50) = true then some false else (if t37.Op = 1 then aO typF tF t33F t34F (.c1 stack t35) else (if t37.Op = 4 then aO typF tF t33F t34F (.c1 stack t35) else (if t37.Op = 7 then aO typF tF t33F t34F (.c1 stack t35) else (if t37.Op = 8 then aO typF tF t33F t34F (.c1 stack t35) else (if t37.Op = 9 then aO typF tF t33F t34F (.c1 stack t35) else (if t37.Op = 2 then aO typF tF t33F t34F (.c2 stack t35) else (if t37.Op = 5 then aO typF tF t33F t34F (.c2 stack t35) else (if t37.Op = 6 then aO typF tF t33F t34F (.c2 stack t35) else (if t37.Op = 10 then aO typF tF t33F t34F (.c2 stack t35) else (pu stack t37.Op) >>= fun t59 => (if t59.2 = true then aO typF tF t33F t34F (.c3 t59.1 true t35) else aO typF tF t33F t34F (.c3 t59.1 false t35))))))))))))) else some false) else (idx stack 0) >>= fun t83 => some (decide (t83 = typF))
 | .c1 stack t35 => (app 8 stack [1]) >>= fun t72 => aO typF tF t33F t34F (.c4 t72 t35)
 | .c2 stack t35 => (app 8 stack [2]) >>= fun t80 => aO typF tF t33F t34F (.c4 t80 t35)
 | .c3 stack ok t35 => if (!ok) = true then some false else aO typF tF t33F t34F (.c4 stack t35)
 | .c4 stack t35 => aO typF tF t33F t34F (.c0 stack (w64 (t35 + 1)))
  partial_fixpoint
def bN (typF : Int) (tF : ab) (stack : List Int) (t33F : List ae) (t34F : Int) (t35 : Int) : Option Bool := aO typF tF t33F t34F (.c0 stack t35)
def fe (typF : Int) (tF : ab) (stack : List Int) (t33F : List ae) (t34F : Int) (t35 : Int) : Option Bool := aO typF tF t33F t34F (.c1 stack t35)
def fZ (typF : Int) (tF : ab) (stack : List Int) (t33F : List ae) (t34F : Int) (t35 : Int) : Option Bool := aO typF tF t33F t34F (.c2 stack t35)
def jz (typF : Int) (tF : ab) (stack : List Int) (ok : Bool) (t33F : List ae) (t34F : Int) (t35 : Int) : Option Bool := aO typF tF t33F t34F (.c3 stack ok t35)
def ig (typF : Int) (tF : ab) (stack : List Int) (t33F : List ae) (t34F : Int) (t35 : Int) : Option Bool := aO typF tF t33F t34F (.c4 stack t35)
theorem ep (typF tF stack t33F t34F t35) : bN typF tF stack t33F t34F t35 = (if t35 < t34F then (idx t33F t35) >>= fun t37 => (if t37.Name = (⟨#[]⟩ : ByteArray) then (if (!(decide (t37.At.Line = 0) && (decide (t37.At.Col = 0) && true))) = true then some false else (pq tF t37) >>= fun t50 => (if (!t50) = true then some false else (if t37.Op = 1 then fe typF tF stack t33F t34F t35 else (if t37.Op = 4 then fe typF tF stack t33F t34F t35 else (if t37.Op = 7 then fe typF tF stack t33F t34F t35 else (if t37.Op = 8 then fe typF tF stack t33F t34F t35 else (if t37.Op = 9 then fe typF tF stack t33F t34F t35 else (if t37.Op = 2 then fZ typF tF stack t33F t34F t35 else (if t37.Op = 5 then fZ typF tF stack t33F t34F t35 else (if t37.Op = 6 then fZ typF tF stack t33F t34F t35 else (if t37.Op = 10 then fZ typF tF stack t33F t34F t35 else (pu stack t37.Op) >>= fun t59 => (if t59.2 = true then jz typF tF t59.1 true t33F t34F t35 else jz typF tF t59.1 false t33F t34F t35)))))))))))) else some false) else (idx stack 0) >>= fun t83 => some (decide (t83 = typF))) := by
 conv => lhs; unfold bN; unfold aO
 rfl
theorem qS (typF tF stack t33F t34F t35) : fe typF tF stack t33F t34F t35 = (app 8 stack [1]) >>= fun t72 => ig typF tF t72 t33F t34F t35 := by
 conv => lhs; unfold fe; unfold aO
 rfl
theorem qT (typF tF stack t33F t34F t35) : fZ typF tF stack t33F t34F t35 = (app 8 stack [2]) >>= fun t80 => ig typF tF t80 t33F t34F t35 := by
 conv => lhs; unfold fZ; unfold aO
 rfl
theorem qU (typF tF stack ok t33F t34F t35) : jz typF tF stack ok t33F t34F t35 = (if (!ok) = true then some false else ig typF tF stack t33F t34F t35) := by
 conv => lhs; unfold jz; unfold aO
 rfl
theorem lV (typF tF stack t33F t34F t35) : ig typF tF stack t33F t34F t35 = bN typF tF stack t33F t34F (w64 (t35 + 1)) := by
 conv => lhs; unfold ig; unfold aO
 rfl
def fl (t : ab) (e : List ae) (typ : Int) : Option Bool :=
 (jV typ 1 2) >>= fun t12 => (if t12 = true then (jV (e.length : Int) 1 256) >>= fun t17 => (if t17 = true then (qn e (w64 ((e.length : Int) - 1))) >>= fun t25 => (if t25 = 0 then (tK e) >>= fun t30 => (if t30 > 64 then some false else bN typ t [] e (e.length : Int) 0) else some false) else some false) else some false)
def jA (t : ab) (s_ : ac) : Option Bool :=
 some (decide (s_.Ix < (t.Timers.length : Int)))
def lG (t : ab) (s_ : ac) : Option Bool :=
 some (decide (s_.Ix < (t.Counters.length : Int)))
def lH (s_ : ac) (t : ab) : Option Bool :=
 some (decide (s_.Ix = 0))
def ms (t : ab) (s_ : ac) : Option Bool :=
 if s_.Name = (⟨#[]⟩ : ByteArray) then (if (!(decide (s_.At.Line = 0) && (decide (s_.At.Col = 0) && true))) = true then some false else (if s_.Ix < 0 then some false else (if s_.Kind = 1 then (if s_.Ix < (t.Vars.length : Int) then (fl t s_.Expr 1) >>= fun t37 => some t37 else some false) else (if s_.Kind = 7 then (if s_.Ix = 0 then (fl t s_.Expr 2) >>= fun t50 => some t50 else some false) else (if (s_.Expr.length : Int) = 0 then (if s_.Kind = 2 then jA t s_ else (if s_.Kind = 3 then jA t s_ else (if s_.Kind = 4 then jA t s_ else (if s_.Kind = 5 then lG t s_ else (if s_.Kind = 10 then lG t s_ else (if s_.Kind = 6 then some (decide (s_.Ix < (t.Dets.length : Int))) else (if s_.Kind = 8 then lH s_ t else (if s_.Kind = 9 then lH s_ t else some false)))))))) else some false))))) else some false
inductive ni where
 | c0 (open_ : List Bool) (t11 : Int)
 | c1 (open_ : List Bool) (t11 : Int)
def cn (tF : ab) (t9F : List ac) (t10F : Int) (st : ni) : Option Bool :=
 match st with
 | .c0 open_ t11 => if t11 < t10F then (idx t9F t11) >>= fun t13 => (ms tF t13) >>= fun t17 => (if (!t17) = true then some false else (if t13.Kind = 7 then (if (open_.length : Int) = 16 then some false else (app 1 open_ [false]) >>= fun t29 => cn tF t9F t10F (.c1 t29 t11)) else (if t13.Kind = 8 then (if (open_.length : Int) = 0 then some false else (idx open_ (w64 ((open_.length : Int) - 1))) >>= fun t38 => (if t38 = true then some false else (idx open_ (w64 ((open_.length : Int) - 1))) >>= fun t44 => (some (open_.set ((w64 ((open_.length : Int) - 1)).toNat) true)) >>= fun l12758 => cn tF t9F t10F (.c1 l12758 t11))) else (if t13.Kind = 9 then (if (open_.length : Int) = 0 then some false else (cut open_ 0 (w64 ((open_.length : Int) - 1))) >>= fun t52 => cn tF t9F t10F (.c1 t52 t11)) else cn tF t9F t10F (.c1 open_ t11))))) else some (decide ((open_.length : Int) = 0))
 | .c1 open_ t11 => cn tF t9F t10F (.c0 open_ (w64 (t11 + 1)))
  partial_fixpoint
def ef (tF : ab) (open_ : List Bool) (t9F : List ac) (t10F : Int) (t11 : Int) : Option Bool := cn tF t9F t10F (.c0 open_ t11)
def ii (tF : ab) (open_ : List Bool) (t9F : List ac) (t10F : Int) (t11 : Int) : Option Bool := cn tF t9F t10F (.c1 open_ t11)
theorem qV (tF open_ t9F t10F t11) : ef tF open_ t9F t10F t11 = (if t11 < t10F then (idx t9F t11) >>= fun t13 => (ms tF t13) >>= fun t17 => (if (!t17) = true then some false else (if t13.Kind = 7 then (if (open_.length : Int) = 16 then some false else (app 1 open_ [false]) >>= fun t29 => ii tF t29 t9F t10F t11) else (if t13.Kind = 8 then (if (open_.length : Int) = 0 then some false else (idx open_ (w64 ((open_.length : Int) - 1))) >>= fun t38 => (if t38 = true then some false else (idx open_ (w64 ((open_.length : Int) - 1))) >>= fun t44 => (some (open_.set ((w64 ((open_.length : Int) - 1)).toNat) true)) >>= fun l12758 => ii tF l12758 t9F t10F t11)) else (if t13.Kind = 9 then (if (open_.length : Int) = 0 then some false else (cut open_ 0 (w64 ((open_.length : Int) - 1))) >>= fun t52 => ii tF t52 t9F t10F t11) else ii tF open_ t9F t10F t11)))) else some (decide ((open_.length : Int) = 0))) := by
 conv => lhs; unfold ef; unfold cn
 rfl
theorem zT (tF open_ t9F t10F t11) : ii tF open_ t9F t10F t11 = ef tF open_ t9F t10F (w64 (t11 + 1)) := by
 conv => lhs; unfold ii; unfold cn
 rfl
def jn (t : ab) (l : List ac) : Option Bool :=
 ef t [] l (l.length : Int) 0
def et (t : ab) (i : Int) (t73 : List aw) (t74 : Int) (t75 : Int) : Option Bool :=
 if t75 < t74 then (idx t73 t75) >>= fun t77 => (jV t77.To 0 (w64 ((t.Stages.length : Int) - 1))) >>= fun t87 => (if t87 = true then (if t77.To = i then some false else (fl t t77.When 2) >>= fun t101 => (if t101 = true then et t i t73 t74 (w64 (t75 + 1)) else some false)) else some false) else some true
  partial_fixpoint
def je (t : ab) (i : Int) (s_ : ah) : Option Bool :=
 (jn t s_.Enter) >>= fun t56 => (if (!t56) = true then some false else (jn t s_.During) >>= fun t62 => (if (!t62) = true then some false else (jn t s_.Leave) >>= fun t69 => (if (!t69) = true then some false else et t i s_.Nexts (s_.Nexts.length : Int) 0)))
def jf (t : ab) (i : Int) (s_ : ah) : Option Bool :=
 if (t.Tables.Groups.length : Int) < 64 then (qx .u64 s_.Green (t.Tables.Groups.length : Int)) >>= fun t50 => (if t50 = 0 then je t i s_ else some false) else je t i s_
def oi (t : ab) (i : Int) : Option Bool :=
 (idx t.Stages i) >>= fun t14 => (jV t14.Id 0 255) >>= fun t18 => (if t18 = true then (if i > 0 then (idx t.Stages (w64 (i - 1))) >>= fun t32 => (if t14.Id ≤ t32.Id then some false else jf t i t14) else jf t i t14) else some false)
def dK (t : ab) (stmts : Int) (nexts : Int) (total : Int) (t78 : List ah) (t79 : Int) (t80 : Int) : Option Bool :=
 if t80 < t79 then (idx t78 t80) >>= fun t83 => (zo t83) >>= fun t105 => (if (w64 (stmts + (w64 ((w64 ((t83.Enter.length : Int) + (t83.During.length : Int))) + (t83.Leave.length : Int))))) > 4096 then some false else (if (w64 (nexts + (t83.Nexts.length : Int))) > 4096 then some false else (if (w64 (total + t105)) > 16384 then some false else (oi t t80) >>= fun t119 => (if (!t119) = true then some false else dK t (w64 (stmts + (w64 ((w64 ((t83.Enter.length : Int) + (t83.During.length : Int))) + (t83.Leave.length : Int))))) (w64 (nexts + (t83.Nexts.length : Int))) (w64 (total + t105)) t78 t79 (w64 (t80 + 1)))))) else some true
  partial_fixpoint
def fz (t : ab) (t60 : List aE) (t61 : Int) (t62 : Int) : Option Bool :=
 if t62 < t61 then (idx t60 t62) >>= fun t64 => (jV t64.Delay 0 3600) >>= fun t68 => (if t68 = true then (jV t64.Hold 0 3600) >>= fun t73 => (if t73 = true then fz t t60 t61 (w64 (t62 + 1)) else some false) else some false) else dK t 0 0 0 t.Stages (t.Stages.length : Int) 0
  partial_fixpoint
def rE (t : ab) : Option Bool :=
 (yJ t.Tables) >>= fun t12 => (if t12 = true then (if (t.Dets.length : Int) > 64 then some false else (if (t.Timers.length : Int) > 64 then some false else (if (t.Counters.length : Int) > 64 then some false else (if (t.Vars.length : Int) > 64 then some false else (jV (t.Stages.length : Int) 1 256) >>= fun t42 => (if t42 = true then (jV t.Start 0 (w64 ((t.Stages.length : Int) - 1))) >>= fun t52 => (if t52 = true then (zn t) >>= fun t56 => (if (!t56) = true then some false else fz t t.Dets (t.Dets.length : Int) 0) else some false) else some false))))) else some false)
inductive sF where
 | c0 (t7 : Int)
 | c1 (t7 : Int)
def eg (t5F : List ae) (t6F : Int) (st : sF) : Option Bool :=
 match st with
 | .c0 t7 => if t7 < t6F then (idx t5F t7) >>= fun t9 => (if t9.Op = 1 then (if t9.Val < 0 then some true else eg t5F t6F (.c1 t7)) else eg t5F t6F (.c1 t7)) else some false
 | .c1 t7 => eg t5F t6F (.c0 (w64 (t7 + 1)))
  partial_fixpoint
def jW (t5F : List ae) (t6F : Int) (t7 : Int) : Option Bool := eg t5F t6F (.c0 t7)
def rr (t5F : List ae) (t6F : Int) (t7 : Int) : Option Bool := eg t5F t6F (.c1 t7)
theorem wD (t5F t6F t7) : jW t5F t6F t7 = (if t7 < t6F then (idx t5F t7) >>= fun t9 => (if t9.Op = 1 then (if t9.Val < 0 then some true else rr t5F t6F t7) else rr t5F t6F t7) else some false) := by
 conv => lhs; unfold jW; unfold eg
 rfl
theorem Ec (t5F t6F t7) : rr t5F t6F t7 = jW t5F t6F (w64 (t7 + 1)) := by
 conv => lhs; unfold rr; unfold eg
 rfl
def rF (e : List ae) : Option Bool :=
 jW e (e.length : Int) 0
inductive oj where
 | c0 (t27 : Int)
 | c1 (s_ : ah) (t27 : Int) (t42 : A3 (List ac)) (t43 : Int)
 | c2 (s_ : ah) (t27 : Int) (t42 : A3 (List ac)) (t43 : Int) (t46 : List ac) (t47 : Int) (t48 : Int)
 | c3 (t27 : Int) (t58 : List aw) (t59 : Int) (t60 : Int)
def bB (t25F : List ah) (t26F : Int) (st : oj) : Option Bool :=
 match st with
 | .c0 t27 => if t27 < t26F then (idx t25F t27) >>= fun t30 => (if t30.Id = t27 then bB t25F t26F (.c1 t30 t27 (⟨t30.Enter, t30.During, t30.Leave⟩ : (A3 (List ac))) 0) else some false) else some true
 | .c1 s_ t27 t42 t43 => if t43 < 3 then (A3.get t42 t43) >>= fun t45 => bB t25F t26F (.c2 s_ t27 t42 t43 t45 (t45.length : Int) 0) else bB t25F t26F (.c3 t27 s_.Nexts (s_.Nexts.length : Int) 0)
 | .c2 s_ t27 t42 t43 t46 t47 t48 => if t48 < t47 then (idx t46 t48) >>= fun t50 => (rF t50.Expr) >>= fun t54 => (if t54 = true then some false else bB t25F t26F (.c2 s_ t27 t42 t43 t46 t47 (w64 (t48 + 1)))) else bB t25F t26F (.c1 s_ t27 t42 (w64 (t43 + 1)))
 | .c3 t27 t58 t59 t60 => if t60 < t59 then (idx t58 t60) >>= fun t62 => (rF t62.When) >>= fun t66 => (if t66 = true then some false else bB t25F t26F (.c3 t27 t58 t59 (w64 (t60 + 1)))) else bB t25F t26F (.c0 (w64 (t27 + 1)))
  partial_fixpoint
def iK (t25F : List ah) (t26F : Int) (t27 : Int) : Option Bool := bB t25F t26F (.c0 t27)
def iL (s_ : ah) (t25F : List ah) (t26F : Int) (t27 : Int) (t42 : A3 (List ac)) (t43 : Int) : Option Bool := bB t25F t26F (.c1 s_ t27 t42 t43)
def iM (s_ : ah) (t25F : List ah) (t26F : Int) (t27 : Int) (t42 : A3 (List ac)) (t43 : Int) (t46 : List ac) (t47 : Int) (t48 : Int) : Option Bool := bB t25F t26F (.c2 s_ t27 t42 t43 t46 t47 t48)
def ks (t25F : List ah) (t26F : Int) (t27 : Int) (t58 : List aw) (t59 : Int) (t60 : Int) : Option Bool := bB t25F t26F (.c3 t27 t58 t59 t60)
theorem sG (t25F t26F t27) : iK t25F t26F t27 = (if t27 < t26F then (idx t25F t27) >>= fun t30 => (if t30.Id = t27 then iL t30 t25F t26F t27 (⟨t30.Enter, t30.During, t30.Leave⟩ : (A3 (List ac))) 0 else some false) else some true) := by
 conv => lhs; unfold iK; unfold bB
 rfl
theorem jX (s_ t25F t26F t27 t42 t43) : iL s_ t25F t26F t27 t42 t43 = (if t43 < 3 then (A3.get t42 t43) >>= fun t45 => iM s_ t25F t26F t27 t42 t43 t45 (t45.length : Int) 0 else ks t25F t26F t27 s_.Nexts (s_.Nexts.length : Int) 0) := by
 conv => lhs; unfold iL; unfold bB
 rfl
theorem sH (s_ t25F t26F t27 t42 t43 t46 t47 t48) : iM s_ t25F t26F t27 t42 t43 t46 t47 t48 = (if t48 < t47 then (idx t46 t48) >>= fun t50 => (rF t50.Expr) >>= fun t54 => (if t54 = true then some false else iM s_ t25F t26F t27 t42 t43 t46 t47 (w64 (t48 + 1))) else iL s_ t25F t26F t27 t42 (w64 (t43 + 1))) := by
 conv => lhs; unfold iM; unfold bB
 rfl
theorem sI (t25F t26F t27 t58 t59 t60) : ks t25F t26F t27 t58 t59 t60 = (if t60 < t59 then (idx t58 t60) >>= fun t62 => (rF t62.When) >>= fun t66 => (if t66 = true then some false else ks t25F t26F t27 t58 t59 (w64 (t60 + 1))) else iK t25F t26F (w64 (t27 + 1))) := by
 conv => lhs; unfold ks; unfold bB
 rfl
def fQ (t : ab) (t14 : List aN) (t15 : Int) (t16 : Int) : Option Bool :=
 if t16 < t15 then (idx t14 t16) >>= fun t18 => (if t18.Init = (-2147483648) then some false else fQ t t14 t15 (w64 (t16 + 1))) else iK t.Stages (t.Stages.length : Int) 0
  partial_fixpoint
def vY (t : ab) : Option Bool :=
 fQ t t.Vars (t.Vars.length : Int) 0
def fR (Kind : Int) (At_Line : Int) (At_Col : Int) (Name : ByteArray) (With : ByteArray) (Sort_ : Int) (N_e0 : Int) (N_e1 : Int) (N_e2 : Int) (Stage_Green : List ByteArray) (Stage_Enter : List ac) (Stage_During : List ac) (Stage_Leave : List ac) (Stage_Nexts : List da) (Name1 : ByteArray) (Decls : List aV) : Option (ByteArray × (List aV)) :=
 (app 224 Decls [(⟨Kind, (⟨At_Line, At_Col⟩ : bd), Name, With, Sort_, (⟨N_e0, N_e1, N_e2⟩ : (A3 Int)), [], (⟨Stage_Green, Stage_Enter, Stage_During, Stage_Leave, Stage_Nexts⟩ : bn)⟩ : aV)]) >>= fun t7 => some (Name1, t7)
inductive ol where
 | c0 (out : List ae) (t10 : Int)
 | c1 (out : List ae) (n_ : ae) (t10 : Int)
 | c2 (out : List ae) (n_ : ae) (t10 : Int)
def bC (tF : ab) (t8F : List ae) (t9F : Int) (st : ol) : Option (List ae) :=
 match st with
 | .c0 out t10 => if t10 < t9F then (idx t8F t10) >>= fun t12 => (if t12.Op = 5 then bC tF t8F t9F (.c1 out t12 t10) else (if t12.Op = 6 then bC tF t8F t9F (.c1 out t12 t10) else (if t12.Op = 7 then (idx tF.Vars t12.Val) >>= fun t40 => bC tF t8F t9F (.c2 out (⟨3, 0, t40.Name, (⟨0, 0⟩ : bd)⟩ : ae) t10) else (if t12.Op = 8 then (idx tF.Timers t12.Val) >>= fun t52 => bC tF t8F t9F (.c2 out (⟨3, 0, t52, (⟨0, 0⟩ : bd)⟩ : ae) t10) else (if t12.Op = 9 then (idx tF.Counters t12.Val) >>= fun t63 => bC tF t8F t9F (.c2 out (⟨3, 0, t63, (⟨0, 0⟩ : bd)⟩ : ae) t10) else (if t12.Op = 10 then (idx tF.Dets t12.Val) >>= fun t74 => bC tF t8F t9F (.c2 out (⟨3, 0, t74.Name, (⟨0, 0⟩ : bd)⟩ : ae) t10) else bC tF t8F t9F (.c2 out t12 t10))))))) else some out
 | .c1 out n_ t10 => (idx tF.Tables.Groups n_.Val) >>= fun t28 => bC tF t8F t9F (.c2 out (⟨n_.Op, 0, t28.Name, (⟨0, 0⟩ : bd)⟩ : ae) t10)
 | .c2 out n_ t10 => (app 48 out [n_]) >>= fun t81 => bC tF t8F t9F (.c0 t81 (w64 (t10 + 1)))
  partial_fixpoint
def dZ (tF : ab) (out : List ae) (t8F : List ae) (t9F : Int) (t10 : Int) : Option (List ae) := bC tF t8F t9F (.c0 out t10)
def mJ (tF : ab) (out : List ae) (n_ : ae) (t8F : List ae) (t9F : Int) (t10 : Int) : Option (List ae) := bC tF t8F t9F (.c1 out n_ t10)
def eR (tF : ab) (out : List ae) (n_ : ae) (t8F : List ae) (t9F : Int) (t10 : Int) : Option (List ae) := bC tF t8F t9F (.c2 out n_ t10)
theorem sJ (tF out t8F t9F t10) : dZ tF out t8F t9F t10 = (if t10 < t9F then (idx t8F t10) >>= fun t12 => (if t12.Op = 5 then mJ tF out t12 t8F t9F t10 else (if t12.Op = 6 then mJ tF out t12 t8F t9F t10 else (if t12.Op = 7 then (idx tF.Vars t12.Val) >>= fun t40 => eR tF out (⟨3, 0, t40.Name, (⟨0, 0⟩ : bd)⟩ : ae) t8F t9F t10 else (if t12.Op = 8 then (idx tF.Timers t12.Val) >>= fun t52 => eR tF out (⟨3, 0, t52, (⟨0, 0⟩ : bd)⟩ : ae) t8F t9F t10 else (if t12.Op = 9 then (idx tF.Counters t12.Val) >>= fun t63 => eR tF out (⟨3, 0, t63, (⟨0, 0⟩ : bd)⟩ : ae) t8F t9F t10 else (if t12.Op = 10 then (idx tF.Dets t12.Val) >>= fun t74 => eR tF out (⟨3, 0, t74.Name, (⟨0, 0⟩ : bd)⟩ : ae) t8F t9F t10 else eR tF out t12 t8F t9F t10)))))) else some out) := by
 conv => lhs; unfold dZ; unfold bC
 rfl
theorem AU (tF out n_ t8F t9F t10) : mJ tF out n_ t8F t9F t10 = (idx tF.Tables.Groups n_.Val) >>= fun t28 => eR tF out (⟨n_.Op, 0, t28.Name, (⟨0, 0⟩ : bd)⟩ : ae) t8F t9F t10 := by
 conv => lhs; unfold mJ; unfold bC
 rfl
theorem AW (tF out n_ t8F t9F t10) : eR tF out n_ t8F t9F t10 = (app 48 out [n_]) >>= fun t81 => dZ tF t81 t8F t9F (w64 (t10 + 1)) := by
 conv => lhs; unfold eR; unfold bC
 rfl
def om (t : ab) (e : List ae) : Option (List ae) :=
 dZ t [] e (e.length : Int) 0
inductive oo where
 | c0 (out : List ac) (t11 : Int)
 | c1 (out : List ac) (s_ : ac) (Kind : Int) (Name : ByteArray) (Ix : Int) (Expr : List ae) (At_Line : Int) (At_Col : Int) (t11 : Int)
 | c2 (out : List ac) (Kind : Int) (Name : ByteArray) (Ix : Int) (Expr : List ae) (At_Line : Int) (At_Col : Int) (t11 : Int)
def bq (tF : ab) (t9F : List ac) (t10F : Int) (st : oo) : Option (List ac) :=
 match st with
 | .c0 out t11 => if t11 < t10F then (idx t9F t11) >>= fun t13 => (om tF t13.Expr) >>= fun t20 => (if t13.Kind = 1 then (idx tF.Vars t13.Ix) >>= fun t32 => bq tF t9F t10F (.c2 out t13.Kind t32.Name 0 t20 0 0 t11) else (if t13.Kind = 2 then bq tF t9F t10F (.c1 out t13 t13.Kind ⟨#[]⟩ 0 t20 0 0 t11) else (if t13.Kind = 3 then bq tF t9F t10F (.c1 out t13 t13.Kind ⟨#[]⟩ 0 t20 0 0 t11) else (if t13.Kind = 4 then bq tF t9F t10F (.c1 out t13 t13.Kind ⟨#[]⟩ 0 t20 0 0 t11) else (if t13.Kind = 10 then (idx tF.Counters t13.Ix) >>= fun t57 => bq tF t9F t10F (.c2 out 2 t57 0 t20 0 0 t11) else (if t13.Kind = 5 then (idx tF.Counters t13.Ix) >>= fun t69 => bq tF t9F t10F (.c2 out t13.Kind t69 0 t20 0 0 t11) else (if t13.Kind = 6 then (idx tF.Dets t13.Ix) >>= fun t80 => bq tF t9F t10F (.c2 out t13.Kind t80.Name 0 t20 0 0 t11) else bq tF t9F t10F (.c2 out t13.Kind ⟨#[]⟩ 0 t20 0 0 t11)))))))) else some out
 | .c1 out s_ Kind Name Ix Expr At_Line At_Col t11 => (idx tF.Timers s_.Ix) >>= fun t46 => bq tF t9F t10F (.c2 out Kind t46 Ix Expr At_Line At_Col t11)
 | .c2 out Kind Name Ix Expr At_Line At_Col t11 => (app 72 out [(⟨Kind, Name, Ix, Expr, (⟨At_Line, At_Col⟩ : bd)⟩ : ac)]) >>= fun t87 => bq tF t9F t10F (.c0 t87 (w64 (t11 + 1)))
  partial_fixpoint
def eb (tF : ab) (out : List ac) (t9F : List ac) (t10F : Int) (t11 : Int) : Option (List ac) := bq tF t9F t10F (.c0 out t11)
def kt (tF : ab) (out : List ac) (s_ : ac) (Kind : Int) (Name : ByteArray) (Ix : Int) (Expr : List ae) (At_Line : Int) (At_Col : Int) (t9F : List ac) (t10F : Int) (t11 : Int) : Option (List ac) := bq tF t9F t10F (.c1 out s_ Kind Name Ix Expr At_Line At_Col t11)
def eS (tF : ab) (out : List ac) (Kind : Int) (Name : ByteArray) (Ix : Int) (Expr : List ae) (At_Line : Int) (At_Col : Int) (t9F : List ac) (t10F : Int) (t11 : Int) : Option (List ac) := bq tF t9F t10F (.c2 out Kind Name Ix Expr At_Line At_Col t11)
theorem sK (tF out t9F t10F t11) : eb tF out t9F t10F t11 = (if t11 < t10F then (idx t9F t11) >>= fun t13 => (om tF t13.Expr) >>= fun t20 => (if t13.Kind = 1 then (idx tF.Vars t13.Ix) >>= fun t32 => eS tF out t13.Kind t32.Name 0 t20 0 0 t9F t10F t11 else (if t13.Kind = 2 then kt tF out t13 t13.Kind ⟨#[]⟩ 0 t20 0 0 t9F t10F t11 else (if t13.Kind = 3 then kt tF out t13 t13.Kind ⟨#[]⟩ 0 t20 0 0 t9F t10F t11 else (if t13.Kind = 4 then kt tF out t13 t13.Kind ⟨#[]⟩ 0 t20 0 0 t9F t10F t11 else (if t13.Kind = 10 then (idx tF.Counters t13.Ix) >>= fun t57 => eS tF out 2 t57 0 t20 0 0 t9F t10F t11 else (if t13.Kind = 5 then (idx tF.Counters t13.Ix) >>= fun t69 => eS tF out t13.Kind t69 0 t20 0 0 t9F t10F t11 else (if t13.Kind = 6 then (idx tF.Dets t13.Ix) >>= fun t80 => eS tF out t13.Kind t80.Name 0 t20 0 0 t9F t10F t11 else eS tF out t13.Kind ⟨#[]⟩ 0 t20 0 0 t9F t10F t11))))))) else some out) := by
 conv => lhs; unfold eb; unfold bq
 rfl
theorem AX (tF out s_ Kind Name Ix Expr At_Line At_Col t9F t10F t11) : kt tF out s_ Kind Name Ix Expr At_Line At_Col t9F t10F t11 = (idx tF.Timers s_.Ix) >>= fun t46 => eS tF out Kind t46 Ix Expr At_Line At_Col t9F t10F t11 := by
 conv => lhs; unfold kt; unfold bq
 rfl
theorem AY (tF out Kind Name Ix Expr At_Line At_Col t9F t10F t11) : eS tF out Kind Name Ix Expr At_Line At_Col t9F t10F t11 = (app 72 out [(⟨Kind, Name, Ix, Expr, (⟨At_Line, At_Col⟩ : bd)⟩ : ac)]) >>= fun t87 => eb tF t87 t9F t10F (w64 (t11 + 1)) := by
 conv => lhs; unfold eS; unfold bq
 rfl
def oq (t : ab) (l : List ac) : Option (List ac) :=
 eb t [] l (l.length : Int) 0
def eh (t : ab) (Green : List ByteArray) (Enter : List ac) (During : List ac) (Leave : List ac) (Nexts : List da) (t49 : List aw) (t50 : Int) (t51 : Int) : Option ((List ByteArray) × (List ac) × (List ac) × (List ac) × (List da)) :=
 if t51 < t50 then (idx t49 t51) >>= fun t53 => (idx t.Stages t53.To) >>= fun t63 => (om t t53.When) >>= fun t69 => (app 56 Nexts [(⟨t63.Name, t69, (⟨0, 0⟩ : bd)⟩ : da)]) >>= fun t72 => eh t Green Enter During Leave t72 t49 t50 (w64 (t51 + 1)) else some (Green, Enter, During, Leave, Nexts)
  partial_fixpoint
inductive nj where
 | c0 (Green : List ByteArray) (t29 : Int)
 | c1 (Green : List ByteArray) (t29 : Int)
def cP (tF : ab) (s_F : ah) (EnterF : List ac) (DuringF : List ac) (LeaveF : List ac) (t27F : List ak) (t28F : Int) (st : nj) : Option ((List ByteArray) × (List ac) × (List ac) × (List ac) × (List da)) :=
 match st with
 | .c0 Green t29 => if t29 < t28F then (idx t27F t29) >>= fun t32 => (qx .u64 s_F.Green t29) >>= fun t37 => (if (EI .u64 t37 1) = 1 then (app 16 Green [t32.Name]) >>= fun t45 => cP tF s_F EnterF DuringF LeaveF t27F t28F (.c1 t45 t29) else cP tF s_F EnterF DuringF LeaveF t27F t28F (.c1 Green t29)) else eh tF Green EnterF DuringF LeaveF [] s_F.Nexts (s_F.Nexts.length : Int) 0
 | .c1 Green t29 => cP tF s_F EnterF DuringF LeaveF t27F t28F (.c0 Green (w64 (t29 + 1)))
  partial_fixpoint
def ff (tF : ab) (s_F : ah) (Green : List ByteArray) (EnterF : List ac) (DuringF : List ac) (LeaveF : List ac) (t27F : List ak) (t28F : Int) (t29 : Int) : Option ((List ByteArray) × (List ac) × (List ac) × (List ac) × (List da)) := cP tF s_F EnterF DuringF LeaveF t27F t28F (.c0 Green t29)
def jB (tF : ab) (s_F : ah) (Green : List ByteArray) (EnterF : List ac) (DuringF : List ac) (LeaveF : List ac) (t27F : List ak) (t28F : Int) (t29 : Int) : Option ((List ByteArray) × (List ac) × (List ac) × (List ac) × (List da)) := cP tF s_F EnterF DuringF LeaveF t27F t28F (.c1 Green t29)
theorem qW (tF s_F Green EnterF DuringF LeaveF t27F t28F t29) : ff tF s_F Green EnterF DuringF LeaveF t27F t28F t29 = (if t29 < t28F then (idx t27F t29) >>= fun t32 => (qx .u64 s_F.Green t29) >>= fun t37 => (if (EI .u64 t37 1) = 1 then (app 16 Green [t32.Name]) >>= fun t45 => jB tF s_F t45 EnterF DuringF LeaveF t27F t28F t29 else jB tF s_F Green EnterF DuringF LeaveF t27F t28F t29) else eh tF Green EnterF DuringF LeaveF [] s_F.Nexts (s_F.Nexts.length : Int) 0) := by
 conv => lhs; unfold ff; unfold cP
 rfl
theorem zV (tF s_F Green EnterF DuringF LeaveF t27F t28F t29) : jB tF s_F Green EnterF DuringF LeaveF t27F t28F t29 = ff tF s_F Green EnterF DuringF LeaveF t27F t28F (w64 (t29 + 1)) := by
 conv => lhs; unfold jB; unfold cP
 rfl
def pM (t : ab) (s_ : ah) : Option ((List ByteArray) × (List ac) × (List ac) × (List ac) × (List da)) :=
 (oq t s_.Enter) >>= fun t13 => (oq t s_.During) >>= fun t17 => (oq t s_.Leave) >>= fun t21 => ff t s_ [] t13 t17 t21 t.Tables.Groups (t.Tables.Groups.length : Int) 0
def gA (t : ab) (Name : ByteArray) (Name1 : ByteArray) (Decls : List aV) (t160 : List ah) (t161 : Int) (t162 : Int) : Option (aW × Int) :=
 if t162 < t161 then (idx t160 t162) >>= fun t164 => (pM t t164) >>= fun t170 => (fR 9 0 0 t164.Name ⟨#[]⟩ 0 0 0 0 t170.1 t170.2.1 t170.2.2.1 t170.2.2.2.1 t170.2.2.2.2 Name1 Decls) >>= fun t172 => gA t Name t172.1 t172.2 t160 t161 (w64 (t162 + 1)) else (idx t.Stages t.Start) >>= fun t179 => (fR 10 0 0 t179.Name ⟨#[]⟩ 0 0 0 0 [] [] [] [] [] Name1 Decls) >>= fun t183 => some ((⟨t183.1, t183.2⟩ : aW), 0)
  partial_fixpoint
def gB (t : ab) (Name : ByteArray) (Name1 : ByteArray) (Decls : List aV) (t144 : List aN) (t145 : Int) (t146 : Int) : Option (aW × Int) :=
 if t146 < t145 then (idx t144 t146) >>= fun t148 => (fR 7 0 0 t148.Name ⟨#[]⟩ 0 t148.Init 0 0 [] [] [] [] [] Name1 Decls) >>= fun t157 => gB t Name t157.1 t157.2 t144 t145 (w64 (t146 + 1)) else gA t Name Name1 Decls t.Stages (t.Stages.length : Int) 0
  partial_fixpoint
def gC (t : ab) (Name : ByteArray) (Name1 : ByteArray) (Decls : List aV) (t132 : List ByteArray) (t133 : Int) (t134 : Int) : Option (aW × Int) :=
 if t134 < t133 then (idx t132 t134) >>= fun t136 => (fR 6 0 0 t136 ⟨#[]⟩ 0 0 0 0 [] [] [] [] [] Name1 Decls) >>= fun t141 => gC t Name t141.1 t141.2 t132 t133 (w64 (t134 + 1)) else gB t Name Name1 Decls t.Vars (t.Vars.length : Int) 0
  partial_fixpoint
def fS (t : ab) (Name : ByteArray) (Name1 : ByteArray) (Decls : List aV) (t120 : List ByteArray) (t121 : Int) (t122 : Int) : Option (aW × Int) :=
 if t122 < t121 then (idx t120 t122) >>= fun t124 => (fR 5 0 0 t124 ⟨#[]⟩ 0 0 0 0 [] [] [] [] [] Name1 Decls) >>= fun t129 => fS t Name t129.1 t129.2 t120 t121 (w64 (t122 + 1)) else gC t Name Name1 Decls t.Counters (t.Counters.length : Int) 0
  partial_fixpoint
inductive un where
 | c0 (Name1 : ByteArray) (Decls : List aV) (t98 : Int)
 | c1 (Name1 : ByteArray) (Decls : List aV) (Kind : Int) (At_Line : Int) (At_Col : Int) (Name2 : ByteArray) (With : ByteArray) (Sort_ : Int) (N_e0 : Int) (N_e1 : Int) (N_e2 : Int) (t98 : Int)
def eT (tF : ab) (NameF : ByteArray) (t96F : List aE) (t97F : Int) (st : un) : Option (aW × Int) :=
 match st with
 | .c0 Name1 Decls t98 => if t98 < t97F then (idx t96F t98) >>= fun t100 => (if t100.Latch = true then eT tF NameF t96F t97F (.c1 Name1 Decls 4 0 0 t100.Name ⟨#[]⟩ 1 (IntKind.i32.wrap t100.Delay) (IntKind.i32.wrap t100.Hold) 0 t98) else eT tF NameF t96F t97F (.c1 Name1 Decls 4 0 0 t100.Name ⟨#[]⟩ 0 (IntKind.i32.wrap t100.Delay) (IntKind.i32.wrap t100.Hold) 0 t98)) else fS tF NameF Name1 Decls tF.Timers (tF.Timers.length : Int) 0
 | .c1 Name1 Decls Kind At_Line At_Col Name2 With Sort_ N_e0 N_e1 N_e2 t98 => (fR Kind At_Line At_Col Name2 With Sort_ N_e0 N_e1 N_e2 [] [] [] [] [] Name1 Decls) >>= fun t117 => eT tF NameF t96F t97F (.c0 t117.1 t117.2 (w64 (t98 + 1)))
  partial_fixpoint
def ia (tF : ab) (NameF : ByteArray) (Name1 : ByteArray) (Decls : List aV) (t96F : List aE) (t97F : Int) (t98 : Int) : Option (aW × Int) := eT tF NameF t96F t97F (.c0 Name1 Decls t98)
def nB (tF : ab) (NameF : ByteArray) (Name1 : ByteArray) (Decls : List aV) (Kind : Int) (At_Line : Int) (At_Col : Int) (Name2 : ByteArray) (With : ByteArray) (Sort_ : Int) (N_e0 : Int) (N_e1 : Int) (N_e2 : Int) (t96F : List aE) (t97F : Int) (t98 : Int) : Option (aW × Int) := eT tF NameF t96F t97F (.c1 Name1 Decls Kind At_Line At_Col Name2 With Sort_ N_e0 N_e1 N_e2 t98)
theorem yO (tF NameF Name1 Decls t96F t97F t98) : ia tF NameF Name1 Decls t96F t97F t98 = (if t98 < t97F then (idx t96F t98) >>= fun t100 => (if t100.Latch = true then nB tF NameF Name1 Decls 4 0 0 t100.Name ⟨#[]⟩ 1 (IntKind.i32.wrap t100.Delay) (IntKind.i32.wrap t100.Hold) 0 t96F t97F t98 else nB tF NameF Name1 Decls 4 0 0 t100.Name ⟨#[]⟩ 0 (IntKind.i32.wrap t100.Delay) (IntKind.i32.wrap t100.Hold) 0 t96F t97F t98) else fS tF NameF Name1 Decls tF.Timers (tF.Timers.length : Int) 0) := by
 conv => lhs; unfold ia; unfold eT
 rfl
theorem FQ (tF NameF Name1 Decls Kind At_Line At_Col Name2 With Sort_ N_e0 N_e1 N_e2 t96F t97F t98) : nB tF NameF Name1 Decls Kind At_Line At_Col Name2 With Sort_ N_e0 N_e1 N_e2 t96F t97F t98 = (fR Kind At_Line At_Col Name2 With Sort_ N_e0 N_e1 N_e2 [] [] [] [] [] Name1 Decls) >>= fun t117 => ia tF NameF t117.1 t117.2 t96F t97F (w64 (t98 + 1)) := by
 conv => lhs; unfold nB; unfold eT
 rfl
def gD (t : ab) (Name : ByteArray) (Name1 : ByteArray) (Decls : List aV) (t62 : List ai) (t63 : Int) (t64 : Int) : Option (aW × Int) :=
 if t64 < t63 then (idx t62 t64) >>= fun t66 => (idx t.Tables.Groups t66.A) >>= fun t74 => (idx t.Tables.Groups t66.B) >>= fun t82 => (fR 3 0 0 t74.Name t82.Name 0 (IntKind.i32.wrap t66.AB) (IntKind.i32.wrap t66.BA) 0 [] [] [] [] [] Name1 Decls) >>= fun t93 => gD t Name t93.1 t93.2 t62 t63 (w64 (t64 + 1)) else ia t Name Name1 Decls t.Dets (t.Dets.length : Int) 0
  partial_fixpoint
def gE (t : ab) (Name : ByteArray) (Name1 : ByteArray) (Decls : List aV) (t36 : List ak) (t37 : Int) (t38 : Int) : Option (aW × Int) :=
 if t38 < t37 then (idx t36 t38) >>= fun t40 => (fR 2 0 0 t40.Name ⟨#[]⟩ t40.Sort_ (IntKind.i32.wrap t40.Min) (IntKind.i32.wrap t40.Amber) (IntKind.i32.wrap t40.Lead) [] [] [] [] [] Name1 Decls) >>= fun t58 => gE t Name t58.1 t58.2 t36 t37 (w64 (t38 + 1)) else gD t Name Name1 Decls t.Tables.Conflicts (t.Tables.Conflicts.length : Int) 0
  partial_fixpoint
def tL (Name : ByteArray) : Option (aW × Int) :=
 some ((⟨⟨#[]⟩, []⟩ : aW), 80)
def Cq (t : ab) : Option (aW × Int) :=
 (rE t) >>= fun t22 => (if t22 = true then (vY t) >>= fun t26 => (if t26 = true then gE t ⟨#[]⟩ t.Name [] t.Tables.Groups (t.Tables.Groups.length : Int) 0 else tL ⟨#[]⟩) else tL ⟨#[]⟩)
def dU (n_ : Int) (lo : Int) (hi : Int) : Option Bool :=
 if n_ ≥ lo then some (decide (n_ ≤ hi)) else some false
inductive sL where
 | c0 (i : Int)
 | c1 (i : Int)
def dG (tF : aI) (n_F : Int) (st : sL) : Option Bool :=
 match st with
 | .c0 i => if i < (tF.Conflicts.length : Int) then (idx tF.Conflicts i) >>= fun t56 => (if t56.A < 0 then some false else (if t56.B ≤ t56.A then some false else (if t56.B ≥ n_F then some false else (dU t56.AB 0 3600) >>= fun t77 => (if t77 = true then (dU t56.BA 0 3600) >>= fun t83 => (if t83 = true then (if i > 0 then (idx tF.Conflicts (w64 (i - 1))) >>= fun t92 => (if t56.A < t92.A then some false else (if t56.A = t92.A then (if t56.B ≤ t92.B then some false else dG tF n_F (.c1 i)) else dG tF n_F (.c1 i))) else dG tF n_F (.c1 i)) else some false) else some false)))) else some true
 | .c1 i => dG tF n_F (.c0 (w64 (i + 1)))
  partial_fixpoint
def lI (tF : aI) (n_F : Int) (i : Int) : Option Bool := dG tF n_F (.c0 i)
def ot (tF : aI) (n_F : Int) (i : Int) : Option Bool := dG tF n_F (.c1 i)
theorem wE (tF n_F i) : lI tF n_F i = (if i < (tF.Conflicts.length : Int) then (idx tF.Conflicts i) >>= fun t56 => (if t56.A < 0 then some false else (if t56.B ≤ t56.A then some false else (if t56.B ≥ n_F then some false else (dU t56.AB 0 3600) >>= fun t77 => (if t77 = true then (dU t56.BA 0 3600) >>= fun t83 => (if t83 = true then (if i > 0 then (idx tF.Conflicts (w64 (i - 1))) >>= fun t92 => (if t56.A < t92.A then some false else (if t56.A = t92.A then (if t56.B ≤ t92.B then some false else ot tF n_F i) else ot tF n_F i)) else ot tF n_F i) else some false) else some false)))) else some true) := by
 conv => lhs; unfold lI; unfold dG
 rfl
theorem Ed (tF n_F i) : ot tF n_F i = lI tF n_F (w64 (i + 1)) := by
 conv => lhs; unfold ot; unfold dG
 rfl
def jg (t : aI) (n_ : Int) (i : Int) : Option Bool :=
 if i < n_ then (idx t.Groups i) >>= fun t22 => (dU t22.Sort_ 1 2) >>= fun t26 => (if t26 = true then (dU t22.Min 1 3600) >>= fun t31 => (if t31 = true then (dU t22.Amber 0 60) >>= fun t37 => (if t37 = true then (dU t22.Lead 0 60) >>= fun t43 => (if t43 = true then jg t n_ (w64 (i + 1)) else some false) else some false) else some false) else some false) else lI t n_ 0
  partial_fixpoint
def zp (t : aI) : Option Bool :=
 if (t.Groups.length : Int) > 64 then some false else jg t (t.Groups.length : Int) 0
def qo (c : Int) : Option Bool :=
 if c ≥ 97 then (if c ≤ 122 then some true else (if c ≥ 65 then some (decide (c ≤ 90)) else some false)) else (if c ≥ 65 then some (decide (c ≤ 90)) else some false)
def pw (c : Int) : Option Bool :=
 if c ≥ 48 then some (decide (c ≤ 57)) else some false
def AZ (c : Int) : Option Bool :=
 (qo c) >>= fun t4 => (if t4 = true then some true else (pw c) >>= fun t7 => (if t7 = true then some true else some (decide (c = 95))))
def gF (s_ : ByteArray) (i : Int) : Option Int :=
 if i < (s_.size : Int) then (fp s_ i) >>= fun t12 => (AZ t12) >>= fun t13 => (if t13 = true then gF s_ (w64 (i + 1)) else some i) else some i
  partial_fixpoint
def tM (s_ : ByteArray) (i : Int) : Option Int :=
 gF s_ i
def mt (c : Int) (base : Int) : Option Int :=
 if base = 16 then (if c ≥ 65 then (if c ≤ 70 then some (w64 ((w64 (IntKind.u8.wrap (c - 65))) + 10)) else some (-1)) else some (-1)) else some (-1)
def sM (c : Int) (base : Int) : Option Int :=
 (pw c) >>= fun t6 => (if t6 = true then some (w64 (IntKind.u8.wrap (c - 48))) else (if base = 16 then (if c ≥ 97 then (if c ≤ 102 then some (w64 ((w64 (IntKind.u8.wrap (c - 97))) + 10)) else mt c base) else mt c base) else mt c base))
inductive px where
 | c0 (n_ : Int) (i : Int)
 | c1 (n_ : Int) (i : Int)
def cT (wF : ByteArray) (baseF : Int) (gapsF : Bool) (st : px) : Option (Int × Bool) :=
 match st with
 | .c0 n_ i => if i < (wF.size : Int) then (fp wF i) >>= fun t19 => (if t19 = 95 then (if (!gapsF) = true then some (0, false) else (if i = 0 then some (0, false) else (if i = (w64 ((wF.size : Int) - 1)) then some (0, false) else (fp wF (w64 (i - 1))) >>= fun t38 => (if t38 = 95 then some (0, false) else cT wF baseF gapsF (.c1 n_ i))))) else (fp wF i) >>= fun t43 => (sM t43 baseF) >>= fun t45 => (if t45 < 0 then some (0, false) else (if (w64 ((w64 (n_ * baseF)) + t45)) > 1099511627776 then cT wF baseF gapsF (.c1 1099511627776 i) else cT wF baseF gapsF (.c1 (w64 ((w64 (n_ * baseF)) + t45)) i)))) else some (n_, decide ((wF.size : Int) > 0))
 | .c1 n_ i => cT wF baseF gapsF (.c0 n_ (w64 (i + 1)))
  partial_fixpoint
def jC (wF : ByteArray) (baseF : Int) (gapsF : Bool) (n_ : Int) (i : Int) : Option (Int × Bool) := cT wF baseF gapsF (.c0 n_ i)
def jD (wF : ByteArray) (baseF : Int) (gapsF : Bool) (n_ : Int) (i : Int) : Option (Int × Bool) := cT wF baseF gapsF (.c1 n_ i)
theorem tO (wF baseF gapsF n_ i) : jC wF baseF gapsF n_ i = (if i < (wF.size : Int) then (fp wF i) >>= fun t19 => (if t19 = 95 then (if (!gapsF) = true then some (0, false) else (if i = 0 then some (0, false) else (if i = (w64 ((wF.size : Int) - 1)) then some (0, false) else (fp wF (w64 (i - 1))) >>= fun t38 => (if t38 = 95 then some (0, false) else jD wF baseF gapsF n_ i)))) else (fp wF i) >>= fun t43 => (sM t43 baseF) >>= fun t45 => (if t45 < 0 then some (0, false) else (if (w64 ((w64 (n_ * baseF)) + t45)) > 1099511627776 then jD wF baseF gapsF 1099511627776 i else jD wF baseF gapsF (w64 ((w64 (n_ * baseF)) + t45)) i))) else some (n_, decide ((wF.size : Int) > 0))) := by
 conv => lhs; unfold jC; unfold cT
 rfl
theorem Cs (wF baseF gapsF n_ i) : jD wF baseF gapsF n_ i = jC wF baseF gapsF n_ (w64 (i + 1)) := by
 conv => lhs; unfold jD; unfold cT
 rfl
def nC (w : ByteArray) (base : Int) (gaps : Bool) : Option (Int × Bool) :=
 jC w base gaps 0 0
inductive nk where
 | c0 (n_ : Int) (i : Int) (k : Int)
 | c1 (n_ : Int) (i : Int) (k : Int) (j : Int)
 | c2 (n_ : Int) (i : Int) (k : Int) (j : Int)
 | c3 (n_ : Int) (k : Int) (j : Int)
 | c4 (n_ : Int) (i : Int) (k : Int)
def aZ (wF : ByteArray) (unitsF : ByteArray) (worthF : A3 Int) (st : nk) : Option (Int × Bool) :=
 match st with
 | .c0 n_ i k => if k < 3 then aZ wF unitsF worthF (.c1 n_ i k i) else (if i > 0 then some (n_, decide (i = (wF.size : Int))) else some (n_, false))
 | .c1 n_ i k j => if j < (wF.size : Int) then (fp wF j) >>= fun t25 => (pw t25) >>= fun t26 => (if t26 = true then aZ wF unitsF worthF (.c1 n_ i k (w64 (j + 1))) else aZ wF unitsF worthF (.c2 n_ i k j)) else aZ wF unitsF worthF (.c2 n_ i k j)
 | .c2 n_ i k j => if j > i then (if j < (wF.size : Int) then (fp wF j) >>= fun t42 => (fp unitsF k) >>= fun t45 => (if t42 = t45 then (rK wF i j) >>= fun t52 => (nC t52 10 false) >>= fun t53 => (A3.get worthF k) >>= fun t59 => (if (w64 (n_ + (w64 (t53.1 * t59)))) > 1099511627776 then aZ wF unitsF worthF (.c3 1099511627776 k j) else aZ wF unitsF worthF (.c3 (w64 (n_ + (w64 (t53.1 * t59)))) k j)) else aZ wF unitsF worthF (.c4 n_ i k)) else aZ wF unitsF worthF (.c4 n_ i k)) else aZ wF unitsF worthF (.c4 n_ i k)
 | .c3 n_ k j => aZ wF unitsF worthF (.c4 n_ (w64 (j + 1)) k)
 | .c4 n_ i k => aZ wF unitsF worthF (.c0 n_ i (w64 (k + 1)))
  partial_fixpoint
def ij (wF : ByteArray) (unitsF : ByteArray) (worthF : A3 Int) (n_ : Int) (i : Int) (k : Int) : Option (Int × Bool) := aZ wF unitsF worthF (.c0 n_ i k)
def jE (wF : ByteArray) (unitsF : ByteArray) (worthF : A3 Int) (n_ : Int) (i : Int) (k : Int) (j : Int) : Option (Int × Bool) := aZ wF unitsF worthF (.c1 n_ i k j)
def jF (wF : ByteArray) (unitsF : ByteArray) (worthF : A3 Int) (n_ : Int) (i : Int) (k : Int) (j : Int) : Option (Int × Bool) := aZ wF unitsF worthF (.c2 n_ i k j)
def jG (wF : ByteArray) (unitsF : ByteArray) (worthF : A3 Int) (n_ : Int) (k : Int) (j : Int) : Option (Int × Bool) := aZ wF unitsF worthF (.c3 n_ k j)
def ga (wF : ByteArray) (unitsF : ByteArray) (worthF : A3 Int) (n_ : Int) (i : Int) (k : Int) : Option (Int × Bool) := aZ wF unitsF worthF (.c4 n_ i k)
theorem qX (wF unitsF worthF n_ i k) : ij wF unitsF worthF n_ i k = (if k < 3 then jE wF unitsF worthF n_ i k i else (if i > 0 then some (n_, decide (i = (wF.size : Int))) else some (n_, false))) := by
 conv => lhs; unfold ij; unfold aZ
 rfl
theorem qY (wF unitsF worthF n_ i k j) : jE wF unitsF worthF n_ i k j = (if j < (wF.size : Int) then (fp wF j) >>= fun t25 => (pw t25) >>= fun t26 => (if t26 = true then jE wF unitsF worthF n_ i k (w64 (j + 1)) else jF wF unitsF worthF n_ i k j) else jF wF unitsF worthF n_ i k j) := by
 conv => lhs; unfold jE; unfold aZ
 rfl
theorem zW (wF unitsF worthF n_ i k j) : jF wF unitsF worthF n_ i k j = (if j > i then (if j < (wF.size : Int) then (fp wF j) >>= fun t42 => (fp unitsF k) >>= fun t45 => (if t42 = t45 then (rK wF i j) >>= fun t52 => (nC t52 10 false) >>= fun t53 => (A3.get worthF k) >>= fun t59 => (if (w64 (n_ + (w64 (t53.1 * t59)))) > 1099511627776 then jG wF unitsF worthF 1099511627776 k j else jG wF unitsF worthF (w64 (n_ + (w64 (t53.1 * t59)))) k j) else ga wF unitsF worthF n_ i k) else ga wF unitsF worthF n_ i k) else ga wF unitsF worthF n_ i k) := by
 conv => lhs; unfold jF; unfold aZ
 rfl
theorem zX (wF unitsF worthF n_ k j) : jG wF unitsF worthF n_ k j = ga wF unitsF worthF n_ (w64 (j + 1)) k := by
 conv => lhs; unfold jG; unfold aZ
 rfl
theorem zY (wF unitsF worthF n_ i k) : ga wF unitsF worthF n_ i k = ij wF unitsF worthF n_ i (w64 (k + 1)) := by
 conv => lhs; unfold ga; unfold aZ
 rfl
def Al (w : ByteArray) : Option (Int × Bool) :=
 ij w ⟨#[104, 109, 115]⟩ (⟨3600, 60, 1⟩ : (A3 Int)) 0 0 0
def jH (n_ : Int) (ok : Bool) : Option (Int × Int) :=
 if (!ok) = true then some (0, 22) else (if n_ > 2147483647 then some (0, 23) else some ((IntKind.i32.wrap n_), 0))
def fA (w : ByteArray) (n_ : Int) (ok : Bool) : Option (Int × Int) :=
 if (!ok) = true then (Al w) >>= fun t38 => (if t38.2 = true then jH t38.1 true else jH t38.1 false) else jH n_ ok
def le (w : ByteArray) (n_ : Int) (ok : Bool) : Option (Int × Int) :=
 if (!ok) = true then (if (w.size : Int) > 2 then (fp w 0) >>= fun t20 => (if t20 = 48 then (fp w 1) >>= fun t25 => (if t25 = 120 then (rK w 2 w.size) >>= fun t30 => (nC t30 16 true) >>= fun t31 => (if t31.2 = true then fA w t31.1 true else fA w t31.1 false) else fA w n_ ok) else fA w n_ ok) else fA w n_ ok) else fA w n_ ok
def qp (w : ByteArray) : Option (Int × Int) :=
 (nC w 10 true) >>= fun t8 => (if t8.2 = true then le w t8.1 true else le w t8.1 false)
def fB (w : ByteArray) (i : Int) : Option Int :=
 if i < 18 then (idx jy i) >>= fun t23 => (if t23 = w then some (w64 (60 + i)) else fB w (w64 (i + 1))) else (if w = (⟨#[]⟩ : ByteArray) then some (-1) else (tM w 0) >>= fun t33 => (if t33 = (w.size : Int) then (fp w 0) >>= fun t39 => (qo t39) >>= fun t40 => (if t40 = true then (if (w.size : Int) > 32 then some (-1) else some 1) else (qp w) >>= fun t46 => (if t46.2 = 0 then some 2 else some (-1))) else some (-1)))
  partial_fixpoint
def fC (w : ByteArray) (i : Int) : Option Int :=
 if i < 41 then (idx jx i) >>= fun t12 => (if t12 = w then some (w64 (10 + i)) else fC w (w64 (i + 1))) else fB w 0
  partial_fixpoint
def jL (w : ByteArray) : Option Int :=
 fC w 0
inductive pA where
 | c0 (i : Int)
 | c1 (i : Int) (j : Int)
def dw (lF : List ByteArray) (st : pA) : Option Bool :=
 match st with
 | .c0 i => if i < (lF.length : Int) then (idx lF i) >>= fun t13 => (jL t13) >>= fun t15 => (if t15 = 1 then dw lF (.c1 i 0) else some false) else some true
 | .c1 i j => if j < i then (idx lF i) >>= fun t24 => (idx lF j) >>= fun t28 => (if t24 = t28 then some false else dw lF (.c1 i (w64 (j + 1)))) else dw lF (.c0 (w64 (i + 1)))
  partial_fixpoint
def iz (lF : List ByteArray) (i : Int) : Option Bool := dw lF (.c0 i)
def lf (lF : List ByteArray) (i : Int) (j : Int) : Option Bool := dw lF (.c1 i j)
theorem tP (lF i) : iz lF i = (if i < (lF.length : Int) then (idx lF i) >>= fun t13 => (jL t13) >>= fun t15 => (if t15 = 1 then lf lF i 0 else some false) else some true) := by
 conv => lhs; unfold iz; unfold dw
 rfl
theorem tQ (lF i j) : lf lF i j = (if j < i then (idx lF i) >>= fun t24 => (idx lF j) >>= fun t28 => (if t24 = t28 then some false else lf lF i (w64 (j + 1))) else iz lF (w64 (i + 1))) := by
 conv => lhs; unfold lf; unfold dw
 rfl
def nD (l : List ByteArray) : Option Bool :=
 iz l 0
def fD (t : ab) (l : List ByteArray) (i : Int) : Option (List ByteArray) :=
 if i < (t.Stages.length : Int) then (idx t.Stages i) >>= fun t77 => (app 16 l [t77.Name]) >>= fun t81 => fD t t81 (w64 (i + 1)) else some l
  partial_fixpoint
def fE (t : ab) (l : List ByteArray) (i : Int) : Option (List ByteArray) :=
 if i < (t.Vars.length : Int) then (idx t.Vars i) >>= fun t61 => (app 16 l [t61.Name]) >>= fun t65 => fE t t65 (w64 (i + 1)) else fD t l 0
  partial_fixpoint
def fF (t : ab) (l : List ByteArray) (i : Int) : Option (List ByteArray) :=
 if i < (t.Dets.length : Int) then (idx t.Dets i) >>= fun t37 => (app 16 l [t37.Name]) >>= fun t41 => fF t t41 (w64 (i + 1)) else (app 16 l t.Timers) >>= fun t45 => (app 16 t45 t.Counters) >>= fun t49 => fE t t49 0
  partial_fixpoint
def fG (t : ab) (l : List ByteArray) (i : Int) : Option (List ByteArray) :=
 if i < (t.Tables.Groups.length : Int) then (idx t.Tables.Groups i) >>= fun t21 => (app 16 l [t21.Name]) >>= fun t25 => fG t t25 (w64 (i + 1)) else fF t l 0
  partial_fixpoint
def tR (t : ab) : Option (List ByteArray) :=
 fG t [] 0
def pN (op : Int) : Option Int :=
 if op = 50 then some 2 else (if op = 51 then some 2 else some (-1))
def pO (op : Int) : Option Int :=
 if op ≥ 40 then (if op ≤ 45 then some 2 else pN op) else pN op
def pP (op : Int) : Option Int :=
 if op ≥ 30 then (if op ≤ 36 then some 2 else pO op) else pO op
def pQ (op : Int) : Option Int :=
 if op ≥ 20 then (if op ≤ 22 then some 1 else pP op) else pP op
def pB (op : Int) : Option Int :=
 if op ≥ 1 then (if op ≤ 10 then some 0 else pQ op) else pQ op
def jh (e : List ae) (wanted : Int) (j : Int) : Option Int :=
 if j ≥ 0 then (idx e j) >>= fun t23 => (pB t23.Op) >>= fun t26 => (if t26 < 0 then some (-1) else (if (w64 ((w64 (wanted - 1)) + t26)) = 0 then some j else jh e (w64 ((w64 (wanted - 1)) + t26)) (w64 (j - 1)))) else some (-1)
  partial_fixpoint
def ve (e : List ae) (i : Int) : Option Int :=
 if i < 0 then some (-1) else (if i ≥ (e.length : Int) then some (-1) else jh e 1 i)
def FR (e : List ae) : Option Bool :=
 if (e.length : Int) = 0 then some false else (ve e (w64 ((e.length : Int) - 1))) >>= fun t11 => some (decide (t11 = 0))
def pC (op : Int) : Option (Int × Int) :=
 if op = 51 then some (1, 2) else (if op = 50 then some (2, 3) else (if op = 21 then some (3, 3) else (if op = 40 then some (5, 5) else (if op = 41 then some (5, 5) else (if op = 42 then some (5, 5) else (if op = 43 then some (5, 5) else (if op = 44 then some (5, 5) else (if op = 45 then some (5, 5) else (if op = 30 then some (5, 6) else (if op = 31 then some (5, 6) else (if op = 32 then some (6, 7) else (if op = 33 then some (6, 7) else (if op = 34 then some (6, 7) else (if op = 20 then some (7, 7) else some (1, 1)))))))))))))))
def pD (op : Int) : Option Int :=
 if op = 51 then some 1 else (if op = 50 then some 2 else (if op = 21 then some 3 else (if op = 40 then some 4 else (if op = 41 then some 4 else (if op = 42 then some 4 else (if op = 43 then some 4 else (if op = 44 then some 4 else (if op = 45 then some 4 else (if op = 30 then some 5 else (if op = 31 then some 5 else (if op = 32 then some 6 else (if op = 33 then some 6 else (if op = 34 then some 6 else (if op = 20 then some 7 else some 8))))))))))))))
inductive sN where
 | c0 (aC : List Int) (ops : List Int) (i : Int)
 | c1 (aC : List Int) (ops : List Int) (i : Int) (op : Int) (a : Int) (x : Int) (y : Int) (own : Int) (k : Int)
 | c2 (aC : List Int) (ops : List Int) (i : Int) (op : Int) (a : Int) (x : Int) (y : Int) (own : Int) (k : Int) (n_ : Int) (asked : Int)
 | c3 (aC : List Int) (ops : List Int) (i : Int) (op : Int) (a : Int) (x : Int) (y : Int) (own : Int) (k : Int) (v : Int)
 | c4 (aC : List Int) (ops : List Int) (i : Int) (op : Int) (a : Int) (x : Int) (y : Int) (own : Int) (k : Int)
 | c5 (aC : List Int) (ops : List Int) (i : Int) (op : Int) (a : Int) (own : Int)
 | c6 (aC : List Int) (ops : List Int) (i : Int) (op : Int) (a : Int) (own : Int)
def aU (eF : List ae) (st : sN) : Option Int :=
 match st with
 | .c0 aC ops i => if i < (eF.length : Int) then (idx eF i) >>= fun t28 => (pB t28.Op) >>= fun t32 => (pC t28.Op) >>= fun t35 => aU eF (.c1 aC ops i t28.Op t32 t35.1 t35.2 0 0) else (idx aC 0) >>= fun t105 => some t105
 | .c1 aC ops i op a x y own k => if k < a then (if k = 1 then aU eF (.c2 aC ops i op a x y own k (w64 ((w64 ((aC.length : Int) - a)) + k)) y) else aU eF (.c2 aC ops i op a x y own k (w64 ((w64 ((aC.length : Int) - a)) + k)) x)) else (if op ≥ 20 then (if op ≤ 22 then aU eF (.c5 aC ops i op a own) else (if op = 35 then aU eF (.c5 aC ops i op a own) else (if op = 36 then aU eF (.c5 aC ops i op a own) else aU eF (.c6 aC ops i op a own)))) else (if op = 35 then aU eF (.c5 aC ops i op a own) else (if op = 36 then aU eF (.c5 aC ops i op a own) else aU eF (.c6 aC ops i op a own))))
 | .c2 aC ops i op a x y own k n_ asked => (idx aC n_) >>= fun t55 => (idx ops n_) >>= fun t59 => (pD t59) >>= fun t61 => (if t61 < asked then aU eF (.c3 aC ops i op a x y own k (w64 (t55 + 1))) else aU eF (.c3 aC ops i op a x y own k t55))
 | .c3 aC ops i op a x y own k v => if v > own then aU eF (.c4 aC ops i op a x y v k) else aU eF (.c4 aC ops i op a x y own k)
 | .c4 aC ops i op a x y own k => aU eF (.c1 aC ops i op a x y own (w64 (k + 1)))
 | .c5 aC ops i op a own => aU eF (.c6 aC ops i op a (w64 (own + 1)))
 | .c6 aC ops i op a own => (cut aC 0 (w64 ((aC.length : Int) - a))) >>= fun t91 => (app 8 t91 [own]) >>= fun t94 => (cut ops 0 (w64 ((ops.length : Int) - a))) >>= fun t100 => (app 8 t100 [op]) >>= fun t103 => aU eF (.c0 t94 t103 (w64 (i + 1)))
  partial_fixpoint
def ji (eF : List ae) (aC : List Int) (ops : List Int) (i : Int) : Option Int := aU eF (.c0 aC ops i)
def jj (eF : List ae) (aC : List Int) (ops : List Int) (i : Int) (op : Int) (a : Int) (x : Int) (y : Int) (own : Int) (k : Int) : Option Int := aU eF (.c1 aC ops i op a x y own k)
def ou (eF : List ae) (aC : List Int) (ops : List Int) (i : Int) (op : Int) (a : Int) (x : Int) (y : Int) (own : Int) (k : Int) (n_ : Int) (asked : Int) : Option Int := aU eF (.c2 aC ops i op a x y own k n_ asked)
def rt (eF : List ae) (aC : List Int) (ops : List Int) (i : Int) (op : Int) (a : Int) (x : Int) (y : Int) (own : Int) (k : Int) (v : Int) : Option Int := aU eF (.c3 aC ops i op a x y own k v)
def ru (eF : List ae) (aC : List Int) (ops : List Int) (i : Int) (op : Int) (a : Int) (x : Int) (y : Int) (own : Int) (k : Int) : Option Int := aU eF (.c4 aC ops i op a x y own k)
def jY (eF : List ae) (aC : List Int) (ops : List Int) (i : Int) (op : Int) (a : Int) (own : Int) : Option Int := aU eF (.c5 aC ops i op a own)
def lJ (eF : List ae) (aC : List Int) (ops : List Int) (i : Int) (op : Int) (a : Int) (own : Int) : Option Int := aU eF (.c6 aC ops i op a own)
theorem wG (eF aC ops i) : ji eF aC ops i = (if i < (eF.length : Int) then (idx eF i) >>= fun t28 => (pB t28.Op) >>= fun t32 => (pC t28.Op) >>= fun t35 => jj eF aC ops i t28.Op t32 t35.1 t35.2 0 0 else (idx aC 0) >>= fun t105 => some t105) := by
 conv => lhs; unfold ji; unfold aU
 rfl
theorem wH (eF aC ops i op a x y own k) : jj eF aC ops i op a x y own k = (if k < a then (if k = 1 then ou eF aC ops i op a x y own k (w64 ((w64 ((aC.length : Int) - a)) + k)) y else ou eF aC ops i op a x y own k (w64 ((w64 ((aC.length : Int) - a)) + k)) x) else (if op ≥ 20 then (if op ≤ 22 then jY eF aC ops i op a own else (if op = 35 then jY eF aC ops i op a own else (if op = 36 then jY eF aC ops i op a own else lJ eF aC ops i op a own))) else (if op = 35 then jY eF aC ops i op a own else (if op = 36 then jY eF aC ops i op a own else lJ eF aC ops i op a own)))) := by
 conv => lhs; unfold jj; unfold aU
 rfl
theorem Ee (eF aC ops i op a x y own k n_ asked) : ou eF aC ops i op a x y own k n_ asked = (idx aC n_) >>= fun t55 => (idx ops n_) >>= fun t59 => (pD t59) >>= fun t61 => (if t61 < asked then rt eF aC ops i op a x y own k (w64 (t55 + 1)) else rt eF aC ops i op a x y own k t55) := by
 conv => lhs; unfold ou; unfold aU
 rfl
theorem Ef (eF aC ops i op a x y own k v) : rt eF aC ops i op a x y own k v = (if v > own then ru eF aC ops i op a x y v k else ru eF aC ops i op a x y own k) := by
 conv => lhs; unfold rt; unfold aU
 rfl
theorem Eg (eF aC ops i op a x y own k) : ru eF aC ops i op a x y own k = jj eF aC ops i op a x y own (w64 (k + 1)) := by
 conv => lhs; unfold ru; unfold aU
 rfl
theorem Eh (eF aC ops i op a own) : jY eF aC ops i op a own = lJ eF aC ops i op a (w64 (own + 1)) := by
 conv => lhs; unfold jY; unfold aU
 rfl
theorem Ei (eF aC ops i op a own) : lJ eF aC ops i op a own = (cut aC 0 (w64 ((aC.length : Int) - a))) >>= fun t91 => (app 8 t91 [own]) >>= fun t94 => (cut ops 0 (w64 ((ops.length : Int) - a))) >>= fun t100 => (app 8 t100 [op]) >>= fun t103 => ji eF t94 t103 (w64 (i + 1)) := by
 conv => lhs; unfold lJ; unfold aU
 rfl
def rv (e : List ae) (ok : Bool) : Option Int :=
 if (!ok) = true then some (-1) else ji e [] [] 0
def zq (e : List ae) : Option Int :=
 (FR e) >>= fun t17 => (if t17 = true then rv e true else rv e false)
def eI (op : Int) : Option Int :=
 if op ≥ 30 then some 2 else (if op ≥ 20 then some 1 else some 0)
def rx (t : ab) : Option Int :=
 some (t.Tables.Groups.length : Int)
def zr (t : ab) (op : Int) : Option Int :=
 if op = 5 then rx t else (if op = 6 then rx t else (if op = 7 then some (t.Vars.length : Int) else (if op = 8 then some (t.Timers.length : Int) else (if op = 9 then some (t.Counters.length : Int) else (if op = 10 then some (t.Dets.length : Int) else some 0)))))
def ov (t : ab) (n_ : ae) (v : Int) : Option Int :=
 if v ≥ 0 then (zr t n_.Op) >>= fun t36 => (if v < t36 then some 1 else some 0) else some 0
def ow (t : ab) (n_ : ae) (v : Int) : Option Int :=
 if v ≥ 0 then (zr t n_.Op) >>= fun t50 => (if v < t50 then some 2 else some 0) else some 0
def rG (t : ab) (n_ : ae) : Option Int :=
 if n_.Op = 1 then some 1 else (if n_.Op = 2 then (if (w64 n_.Val) = 0 then some 2 else (if (w64 n_.Val) = 1 then some 2 else some 0)) else (if n_.Op = 4 then (if (w64 n_.Val) = 0 then some 1 else some 0) else (if n_.Op = 7 then ov t n_ (w64 n_.Val) else (if n_.Op = 8 then ov t n_ (w64 n_.Val) else (if n_.Op = 9 then ov t n_ (w64 n_.Val) else (if n_.Op = 5 then ow t n_ (w64 n_.Val) else (if n_.Op = 6 then ow t n_ (w64 n_.Val) else (if n_.Op = 10 then ow t n_ (w64 n_.Val) else some 0))))))))
def ox (a : Int) : Option Int :=
 if a = 1 then some 1 else some 0
def oy (a : Int) (b : Int) : Option Int :=
 if a = b then some 2 else some 0
def oz (a : Int) (b : Int) : Option Int :=
 if a = 2 then (if b = 2 then some 2 else some 0) else some 0
def oA (op : Int) (a : Int) (b : Int) : Option Int :=
 if op = 50 then oz a b else (if op = 51 then oz a b else some 0)
def oB (op : Int) (a : Int) (b : Int) : Option Int :=
 if op = 40 then oy a b else (if op = 41 then oy a b else (if op ≥ 42 then (if op ≤ 45 then (if a = 1 then (if b = 1 then some 2 else some 0) else some 0) else oA op a b) else oA op a b))
def gG (op : Int) (a : Int) (b : Int) : Option Int :=
 if op = 20 then ox a else (if op = 22 then ox a else (if op = 21 then (if a = 2 then some 2 else some 0) else (if op ≥ 30 then (if op ≤ 36 then (if a = 1 then (if b = 1 then some 1 else some 0) else some 0) else oB op a b) else oB op a b)))
inductive qD where
 | c0 (stack : List Int) (i : Int)
 | c1 (stack : List Int) (i : Int) (typ : Int)
def dn (eF : List ae) (tF : ab) (st : qD) : Option Int :=
 match st with
 | .c0 stack i => if i < (eF.length : Int) then (idx eF i) >>= fun t20 => (if t20.Name = (⟨#[]⟩ : ByteArray) then (if t20.At.Line = 0 then (if t20.At.Col = 0 then (eI t20.Op) >>= fun t39 => (if t39 = 0 then (rG tF t20) >>= fun t43 => (app 8 stack [t43]) >>= fun t47 => dn eF tF (.c1 t47 i t43) else (if t20.Val = 0 then (eI t20.Op) >>= fun t53 => (if t53 = 1 then (idx stack (w64 ((stack.length : Int) - 1))) >>= fun t60 => (gG t20.Op t60 0) >>= fun t62 => (idx stack (w64 ((stack.length : Int) - 1))) >>= fun t67 => (some (stack.set ((w64 ((stack.length : Int) - 1)).toNat) t62)) >>= fun l13095 => dn eF tF (.c1 l13095 i t62) else (idx stack (w64 ((stack.length : Int) - 2))) >>= fun t73 => (idx stack (w64 ((stack.length : Int) - 1))) >>= fun t78 => (gG t20.Op t73 t78) >>= fun t80 => (idx stack (w64 ((stack.length : Int) - 2))) >>= fun t85 => (some (stack.set ((w64 ((stack.length : Int) - 2)).toNat) t80)) >>= fun l13099 => (cut l13099 0 (w64 ((stack.length : Int) - 1))) >>= fun t89 => dn eF tF (.c1 t89 i t80)) else some 0)) else some 0) else some 0) else some 0) else (idx stack 0) >>= fun t93 => some t93
 | .c1 stack i typ => if typ = 0 then some 0 else dn eF tF (.c0 stack (w64 (i + 1)))
  partial_fixpoint
def eJ (eF : List ae) (tF : ab) (stack : List Int) (i : Int) : Option Int := dn eF tF (.c0 stack i)
def ib (eF : List ae) (tF : ab) (stack : List Int) (i : Int) (typ : Int) : Option Int := dn eF tF (.c1 stack i typ)
theorem ik (eF tF stack i) : eJ eF tF stack i = (if i < (eF.length : Int) then (idx eF i) >>= fun t20 => (if t20.Name = (⟨#[]⟩ : ByteArray) then (if t20.At.Line = 0 then (if t20.At.Col = 0 then (eI t20.Op) >>= fun t39 => (if t39 = 0 then (rG tF t20) >>= fun t43 => (app 8 stack [t43]) >>= fun t47 => ib eF tF t47 i t43 else (if t20.Val = 0 then (eI t20.Op) >>= fun t53 => (if t53 = 1 then (idx stack (w64 ((stack.length : Int) - 1))) >>= fun t60 => (gG t20.Op t60 0) >>= fun t62 => (idx stack (w64 ((stack.length : Int) - 1))) >>= fun t67 => (some (stack.set ((w64 ((stack.length : Int) - 1)).toNat) t62)) >>= fun l13095 => ib eF tF l13095 i t62 else (idx stack (w64 ((stack.length : Int) - 2))) >>= fun t73 => (idx stack (w64 ((stack.length : Int) - 1))) >>= fun t78 => (gG t20.Op t73 t78) >>= fun t80 => (idx stack (w64 ((stack.length : Int) - 2))) >>= fun t85 => (some (stack.set ((w64 ((stack.length : Int) - 2)).toNat) t80)) >>= fun l13099 => (cut l13099 0 (w64 ((stack.length : Int) - 1))) >>= fun t89 => ib eF tF t89 i t80) else some 0)) else some 0) else some 0) else some 0) else (idx stack 0) >>= fun t93 => some t93) := by
 conv => lhs; unfold eJ; unfold dn
 rfl
theorem Df (eF tF stack i typ) : ib eF tF stack i typ = (if typ = 0 then some 0 else eJ eF tF stack (w64 (i + 1))) := by
 conv => lhs; unfold ib; unfold dn
 rfl
def B0 (t : ab) (e : List ae) : Option Int :=
 eJ e t [] 0
def eN (t : ab) (e : List ae) (typ : Int) : Option Bool :=
 if (e.length : Int) < 1 then some false else (if (e.length : Int) > 256 then some false else (ve e (w64 ((e.length : Int) - 1))) >>= fun t21 => (if t21 = 0 then (zq e) >>= fun t26 => (if t26 > 64 then some false else (B0 t e) >>= fun t31 => (if t31 = 0 then some false else some (decide (t31 = typ)))) else some false))
inductive lW where
 | c0 (elses : List Bool) (i : Int)
 | c1 (elses : List Bool) (i : Int) (s_ : ac) (typ : Int)
 | c2 (elses : List Bool) (i : Int) (s_ : ac) (typ : Int)
 | c3 (elses : List Bool) (i : Int) (s_ : ac) (things : Int) (typ : Int)
 | c4 (elses : List Bool) (i : Int)
def aD (lF : List ac) (tF : ab) (st : lW) : Option Bool :=
 match st with
 | .c0 elses i => if i < (lF.length : Int) then (idx lF i) >>= fun t19 => (if t19.Name = (⟨#[]⟩ : ByteArray) then (if t19.At.Line = 0 then (if t19.At.Col = 0 then (if t19.Kind = 1 then aD lF tF (.c3 elses i t19 (tF.Vars.length : Int) 1) else (if t19.Kind = 2 then aD lF tF (.c1 elses i t19 0) else (if t19.Kind = 3 then aD lF tF (.c1 elses i t19 0) else (if t19.Kind = 4 then aD lF tF (.c1 elses i t19 0) else (if t19.Kind = 5 then aD lF tF (.c2 elses i t19 0) else (if t19.Kind = 10 then aD lF tF (.c2 elses i t19 0) else (if t19.Kind = 6 then aD lF tF (.c3 elses i t19 (tF.Dets.length : Int) 0) else (if t19.Kind = 7 then (app 1 elses [false]) >>= fun t67 => (if (t67.length : Int) > 16 then some false else aD lF tF (.c3 t67 i t19 1 2)) else (if t19.Kind = 8 then (if (elses.length : Int) = 0 then some false else (idx elses (w64 ((elses.length : Int) - 1))) >>= fun t79 => (if t79 = true then some false else (idx elses (w64 ((elses.length : Int) - 1))) >>= fun t85 => (some (elses.set ((w64 ((elses.length : Int) - 1)).toNat) true)) >>= fun l13133 => aD lF tF (.c3 l13133 i t19 1 0))) else (if t19.Kind = 9 then (if (elses.length : Int) = 0 then some false else (cut elses 0 (w64 ((elses.length : Int) - 1))) >>= fun t93 => aD lF tF (.c3 t93 i t19 1 0)) else some false)))))))))) else some false) else some false) else some false) else some (decide ((elses.length : Int) = 0))
 | .c1 elses i s_ typ => aD lF tF (.c3 elses i s_ (tF.Timers.length : Int) typ)
 | .c2 elses i s_ typ => aD lF tF (.c3 elses i s_ (tF.Counters.length : Int) typ)
 | .c3 elses i s_ things typ => if s_.Ix < 0 then some false else (if s_.Ix ≥ things then some false else (if typ = 0 then (if (s_.Expr.length : Int) > 0 then some false else (if typ = 0 then aD lF tF (.c4 elses i) else (eN tF s_.Expr typ) >>= fun t119 => (if t119 = true then aD lF tF (.c4 elses i) else some false))) else (if typ = 0 then aD lF tF (.c4 elses i) else (eN tF s_.Expr typ) >>= fun t119_1 => (if t119_1 = true then aD lF tF (.c4 elses i) else some false))))
 | .c4 elses i => aD lF tF (.c0 elses (w64 (i + 1)))
  partial_fixpoint
def dL (lF : List ac) (tF : ab) (elses : List Bool) (i : Int) : Option Bool := aD lF tF (.c0 elses i)
def jk (lF : List ac) (tF : ab) (elses : List Bool) (i : Int) (s_ : ac) (typ : Int) : Option Bool := aD lF tF (.c1 elses i s_ typ)
def kL (lF : List ac) (tF : ab) (elses : List Bool) (i : Int) (s_ : ac) (typ : Int) : Option Bool := aD lF tF (.c2 elses i s_ typ)
def dp (lF : List ac) (tF : ab) (elses : List Bool) (i : Int) (s_ : ac) (things : Int) (typ : Int) : Option Bool := aD lF tF (.c3 elses i s_ things typ)
def gO (lF : List ac) (tF : ab) (elses : List Bool) (i : Int) : Option Bool := aD lF tF (.c4 elses i)
theorem qq (lF tF elses i) : dL lF tF elses i = (if i < (lF.length : Int) then (idx lF i) >>= fun t19 => (if t19.Name = (⟨#[]⟩ : ByteArray) then (if t19.At.Line = 0 then (if t19.At.Col = 0 then (if t19.Kind = 1 then dp lF tF elses i t19 (tF.Vars.length : Int) 1 else (if t19.Kind = 2 then jk lF tF elses i t19 0 else (if t19.Kind = 3 then jk lF tF elses i t19 0 else (if t19.Kind = 4 then jk lF tF elses i t19 0 else (if t19.Kind = 5 then kL lF tF elses i t19 0 else (if t19.Kind = 10 then kL lF tF elses i t19 0 else (if t19.Kind = 6 then dp lF tF elses i t19 (tF.Dets.length : Int) 0 else (if t19.Kind = 7 then (app 1 elses [false]) >>= fun t67 => (if (t67.length : Int) > 16 then some false else dp lF tF t67 i t19 1 2) else (if t19.Kind = 8 then (if (elses.length : Int) = 0 then some false else (idx elses (w64 ((elses.length : Int) - 1))) >>= fun t79 => (if t79 = true then some false else (idx elses (w64 ((elses.length : Int) - 1))) >>= fun t85 => (some (elses.set ((w64 ((elses.length : Int) - 1)).toNat) true)) >>= fun l13133 => dp lF tF l13133 i t19 1 0)) else (if t19.Kind = 9 then (if (elses.length : Int) = 0 then some false else (cut elses 0 (w64 ((elses.length : Int) - 1))) >>= fun t93 => dp lF tF t93 i t19 1 0) else some false)))))))))) else some false) else some false) else some false) else some (decide ((elses.length : Int) = 0))) := by
 conv => lhs; unfold dL; unfold aD
 rfl
theorem yP (lF tF elses i s_ typ) : jk lF tF elses i s_ typ = dp lF tF elses i s_ (tF.Timers.length : Int) typ := by
 conv => lhs; unfold jk; unfold aD
 rfl
theorem yQ (lF tF elses i s_ typ) : kL lF tF elses i s_ typ = dp lF tF elses i s_ (tF.Counters.length : Int) typ := by
 conv => lhs; unfold kL; unfold aD
 rfl
theorem yR (lF tF elses i s_ things typ) : dp lF tF elses i s_ things typ = (if s_.Ix < 0 then some false else (if s_.Ix ≥ things then some false else (if typ = 0 then (if (s_.Expr.length : Int) > 0 then some false else (if typ = 0 then gO lF tF elses i else (eN tF s_.Expr typ) >>= fun t119 => (if t119 = true then gO lF tF elses i else some false))) else (if typ = 0 then gO lF tF elses i else (eN tF s_.Expr typ) >>= fun t119_1 => (if t119_1 = true then gO lF tF elses i else some false))))) := by
 conv => lhs; unfold dp; unfold aD
 rfl
theorem yS (lF tF elses i) : gO lF tF elses i = dL lF tF elses (w64 (i + 1)) := by
 conv => lhs; unfold gO; unfold aD
 rfl
def eO (t : ab) (l : List ac) : Option Bool :=
 dL l t [] 0
def ic (l : List ac) (n_ : Int) (i : Int) : Option Int :=
 if i < (l.length : Int) then (idx l i) >>= fun t14 => ic l (w64 (n_ + (t14.Expr.length : Int))) (w64 (i + 1)) else some n_
  partial_fixpoint
def jZ (l : List ac) : Option Int :=
 ic l 0 0
inductive pE where
 | c0 (stmts : Int) (nexts : Int) (total : Int) (i : Int)
 | c1 (stmts : Int) (nexts : Int) (total : Int) (i : Int) (s_ : ah)
 | c2 (stmts : Int) (nexts : Int) (total : Int) (i : Int) (s_ : ah)
 | c3 (stmts : Int) (nexts : Int) (total : Int) (i : Int) (s_ : ah) (j : Int)
def bG (tF : ab) (st : pE) : Option Bool :=
 match st with
 | .c0 stmts nexts total i => if i < (tF.Stages.length : Int) then (idx tF.Stages i) >>= fun t21 => (dU t21.Id 0 255) >>= fun t25 => (if t25 = true then (if i > 0 then (idx tF.Stages (w64 (i - 1))) >>= fun t37 => (if t21.Id ≤ t37.Id then some false else bG tF (.c1 stmts nexts total i t21)) else bG tF (.c1 stmts nexts total i t21)) else some false) else (if stmts ≤ 4096 then (if nexts ≤ 4096 then some (decide (total ≤ 16384)) else some false) else some false)
 | .c1 stmts nexts total i s_ => if (tF.Tables.Groups.length : Int) < 64 then (qx .u64 s_.Green (tF.Tables.Groups.length : Int)) >>= fun t53 => (if t53 = 0 then bG tF (.c2 stmts nexts total i s_) else some false) else bG tF (.c2 stmts nexts total i s_)
 | .c2 stmts nexts total i s_ => (eO tF s_.Enter) >>= fun t59 => (if t59 = true then (eO tF s_.During) >>= fun t65 => (if t65 = true then (eO tF s_.Leave) >>= fun t72 => (if t72 = true then (jZ s_.Enter) >>= fun t91 => (jZ s_.During) >>= fun t95 => (jZ s_.Leave) >>= fun t99 => bG tF (.c3 (w64 ((w64 ((w64 (stmts + (s_.Enter.length : Int))) + (s_.During.length : Int))) + (s_.Leave.length : Int))) (w64 (nexts + (s_.Nexts.length : Int))) (w64 ((w64 ((w64 (total + t91)) + t95)) + t99)) i s_ 0) else some false) else some false) else some false)
 | .c3 stmts nexts total i s_ j => if j < (s_.Nexts.length : Int) then (idx s_.Nexts j) >>= fun t116 => (if t116.To < 0 then some false else (if t116.To ≥ (tF.Stages.length : Int) then some false else (if t116.To = i then some false else (eN tF t116.When 2) >>= fun t139 => (if t139 = true then bG tF (.c3 stmts nexts (w64 (total + (t116.When.length : Int))) i s_ (w64 (j + 1))) else some false)))) else bG tF (.c0 stmts nexts total (w64 (i + 1)))
  partial_fixpoint
def dA (tF : ab) (stmts : Int) (nexts : Int) (total : Int) (i : Int) : Option Bool := bG tF (.c0 stmts nexts total i)
def lg (tF : ab) (stmts : Int) (nexts : Int) (total : Int) (i : Int) (s_ : ah) : Option Bool := bG tF (.c1 stmts nexts total i s_)
def lh (tF : ab) (stmts : Int) (nexts : Int) (total : Int) (i : Int) (s_ : ah) : Option Bool := bG tF (.c2 stmts nexts total i s_)
def li (tF : ab) (stmts : Int) (nexts : Int) (total : Int) (i : Int) (s_ : ah) (j : Int) : Option Bool := bG tF (.c3 stmts nexts total i s_ j)
theorem oC (tF stmts nexts total i) : dA tF stmts nexts total i = (if i < (tF.Stages.length : Int) then (idx tF.Stages i) >>= fun t21 => (dU t21.Id 0 255) >>= fun t25 => (if t25 = true then (if i > 0 then (idx tF.Stages (w64 (i - 1))) >>= fun t37 => (if t21.Id ≤ t37.Id then some false else lg tF stmts nexts total i t21) else lg tF stmts nexts total i t21) else some false) else (if stmts ≤ 4096 then (if nexts ≤ 4096 then some (decide (total ≤ 16384)) else some false) else some false)) := by
 conv => lhs; unfold dA; unfold bG
 rfl
theorem Cu (tF stmts nexts total i s_) : lg tF stmts nexts total i s_ = (if (tF.Tables.Groups.length : Int) < 64 then (qx .u64 s_.Green (tF.Tables.Groups.length : Int)) >>= fun t53 => (if t53 = 0 then lh tF stmts nexts total i s_ else some false) else lh tF stmts nexts total i s_) := by
 conv => lhs; unfold lg; unfold bG
 rfl
theorem Cv (tF stmts nexts total i s_) : lh tF stmts nexts total i s_ = (eO tF s_.Enter) >>= fun t59 => (if t59 = true then (eO tF s_.During) >>= fun t65 => (if t65 = true then (eO tF s_.Leave) >>= fun t72 => (if t72 = true then (jZ s_.Enter) >>= fun t91 => (jZ s_.During) >>= fun t95 => (jZ s_.Leave) >>= fun t99 => li tF (w64 ((w64 ((w64 (stmts + (s_.Enter.length : Int))) + (s_.During.length : Int))) + (s_.Leave.length : Int))) (w64 (nexts + (s_.Nexts.length : Int))) (w64 ((w64 ((w64 (total + t91)) + t95)) + t99)) i s_ 0 else some false) else some false) else some false) := by
 conv => lhs; unfold lh; unfold bG
 rfl
theorem tS (tF stmts nexts total i s_ j) : li tF stmts nexts total i s_ j = (if j < (s_.Nexts.length : Int) then (idx s_.Nexts j) >>= fun t116 => (if t116.To < 0 then some false else (if t116.To ≥ (tF.Stages.length : Int) then some false else (if t116.To = i then some false else (eN tF t116.When 2) >>= fun t139 => (if t139 = true then li tF stmts nexts (w64 (total + (t116.When.length : Int))) i s_ (w64 (j + 1)) else some false)))) else dA tF stmts nexts total (w64 (i + 1))) := by
 conv => lhs; unfold li; unfold bG
 rfl
def qr (t : ab) : Option Bool :=
 dA t 0 0 0 0
def ie (t : ab) (i : Int) : Option Bool :=
 if i < (t.Dets.length : Int) then (idx t.Dets i) >>= fun t60 => (dU t60.Delay 0 3600) >>= fun t63 => (if t63 = true then (idx t.Dets i) >>= fun t69 => (dU t69.Hold 0 3600) >>= fun t72 => (if t72 = true then ie t (w64 (i + 1)) else some false) else some false) else (nD [t.Name]) >>= fun t78 => (if t78 = true then (tR t) >>= fun t81 => (nD t81) >>= fun t82 => (if t82 = true then (qr t) >>= fun t86 => some t86 else some false) else some false)
  partial_fixpoint
def vZ (t : ab) : Option Bool :=
 (zp t.Tables) >>= fun t6 => (if t6 = true then (if (t.Dets.length : Int) > 64 then some false else (if (t.Timers.length : Int) > 64 then some false else (if (t.Counters.length : Int) > 64 then some false else (if (t.Vars.length : Int) > 64 then some false else (dU (t.Stages.length : Int) 1 256) >>= fun t35 => (if t35 = true then (if t.Start < 0 then some false else (if t.Start ≥ (t.Stages.length : Int) then some false else ie t 0)) else some false))))) else some false)
inductive qE where
 | c0 (i : Int)
 | c1 (i : Int)
def dM (eF : List ae) (st : qE) : Option Bool :=
 match st with
 | .c0 i => if i < (eF.length : Int) then (idx eF i) >>= fun t12 => (if t12.Op = 1 then (idx eF i) >>= fun t19 => (if t19.Val < 0 then some false else dM eF (.c1 i)) else dM eF (.c1 i)) else some true
 | .c1 i => dM eF (.c0 (w64 (i + 1)))
  partial_fixpoint
def jo (eF : List ae) (i : Int) : Option Bool := dM eF (.c0 i)
def pR (eF : List ae) (i : Int) : Option Bool := dM eF (.c1 i)
theorem vf (eF i) : jo eF i = (if i < (eF.length : Int) then (idx eF i) >>= fun t12 => (if t12.Op = 1 then (idx eF i) >>= fun t19 => (if t19.Val < 0 then some false else pR eF i) else pR eF i) else some true) := by
 conv => lhs; unfold jo; unfold dM
 rfl
theorem Dg (eF i) : pR eF i = jo eF (w64 (i + 1)) := by
 conv => lhs; unfold pR; unfold dM
 rfl
def sO (e : List ae) : Option Bool :=
 jo e 0
def eu (l : List ac) (i : Int) : Option Bool :=
 if i < (l.length : Int) then (idx l i) >>= fun t12 => (sO t12.Expr) >>= fun t15 => (if t15 = true then eu l (w64 (i + 1)) else some false) else some true
  partial_fixpoint
def gH (l : List ac) : Option Bool :=
 eu l 0
inductive nn where
 | c0 (i : Int)
 | c1 (i : Int) (s_ : ah) (j : Int)
def cQ (tF : ab) (st : nn) : Option Bool :=
 match st with
 | .c0 i => if i < (tF.Stages.length : Int) then (idx tF.Stages i) >>= fun t31 => (if t31.Id = i then (gH t31.Enter) >>= fun t40 => (if t40 = true then (gH t31.During) >>= fun t46 => (if t46 = true then (gH t31.Leave) >>= fun t52 => (if t52 = true then cQ tF (.c1 i t31 0) else some false) else some false) else some false) else some false) else some true
 | .c1 i s_ j => if j < (s_.Nexts.length : Int) then (idx s_.Nexts j) >>= fun t65 => (sO t65.When) >>= fun t68 => (if t68 = true then cQ tF (.c1 i s_ (w64 (j + 1))) else some false) else cQ tF (.c0 (w64 (i + 1)))
  partial_fixpoint
def il (tF : ab) (i : Int) : Option Bool := cQ tF (.c0 i)
def jI (tF : ab) (i : Int) (s_ : ah) (j : Int) : Option Bool := cQ tF (.c1 i s_ j)
theorem qZ (tF i) : il tF i = (if i < (tF.Stages.length : Int) then (idx tF.Stages i) >>= fun t31 => (if t31.Id = i then (gH t31.Enter) >>= fun t40 => (if t40 = true then (gH t31.During) >>= fun t46 => (if t46 = true then (gH t31.Leave) >>= fun t52 => (if t52 = true then jI tF i t31 0 else some false) else some false) else some false) else some false) else some true) := by
 conv => lhs; unfold il; unfold cQ
 rfl
theorem ra (tF i s_ j) : jI tF i s_ j = (if j < (s_.Nexts.length : Int) then (idx s_.Nexts j) >>= fun t65 => (sO t65.When) >>= fun t68 => (if t68 = true then jI tF i s_ (w64 (j + 1)) else some false) else il tF (w64 (i + 1))) := by
 conv => lhs; unfold jI; unfold cQ
 rfl
def fg (t : ab) (i : Int) : Option Bool :=
 if i < (t.Vars.length : Int) then (idx t.Vars i) >>= fun t17 => (if t17.Init = (-2147483648) then some false else fg t (w64 (i + 1))) else il t 0
  partial_fixpoint
def uo (t : ab) : Option Bool :=
 fg t 0
inductive oD where
 | c0 (l : List ae) (i : Int)
 | c1 (l : List ae) (i : Int) (n_ : ae) (v : Int)
 | c2 (l : List ae) (i : Int) (n_ : ae)
def bD (eF : List ae) (tF : ab) (st : oD) : Option (List ae) :=
 match st with
 | .c0 l i => if i < (eF.length : Int) then (idx eF i) >>= fun t17 => (if t17.Op = 7 then (idx tF.Vars (w64 t17.Val)) >>= fun t29 => bD eF tF (.c2 l i (⟨3, 0, t29.Name, (⟨0, 0⟩ : bd)⟩ : ae)) else (if t17.Op = 8 then (idx tF.Timers (w64 t17.Val)) >>= fun t38 => bD eF tF (.c2 l i (⟨3, 0, t38, (⟨0, 0⟩ : bd)⟩ : ae)) else (if t17.Op = 9 then (idx tF.Counters (w64 t17.Val)) >>= fun t46 => bD eF tF (.c2 l i (⟨3, 0, t46, (⟨0, 0⟩ : bd)⟩ : ae)) else (if t17.Op = 10 then (idx tF.Dets (w64 t17.Val)) >>= fun t54 => bD eF tF (.c2 l i (⟨3, 0, t54.Name, (⟨0, 0⟩ : bd)⟩ : ae)) else (if t17.Op = 5 then bD eF tF (.c1 l i t17 (w64 t17.Val)) else (if t17.Op = 6 then bD eF tF (.c1 l i t17 (w64 t17.Val)) else bD eF tF (.c2 l i t17))))))) else some l
 | .c1 l i n_ v => (idx tF.Tables.Groups v) >>= fun t67 => bD eF tF (.c2 l i (⟨n_.Op, 0, t67.Name, (⟨0, 0⟩ : bd)⟩ : ae))
 | .c2 l i n_ => (app 48 l [n_]) >>= fun t74 => bD eF tF (.c0 t74 (w64 (i + 1)))
  partial_fixpoint
def ec (eF : List ae) (tF : ab) (l : List ae) (i : Int) : Option (List ae) := bD eF tF (.c0 l i)
def mK (eF : List ae) (tF : ab) (l : List ae) (i : Int) (n_ : ae) (v : Int) : Option (List ae) := bD eF tF (.c1 l i n_ v)
def eU (eF : List ae) (tF : ab) (l : List ae) (i : Int) (n_ : ae) : Option (List ae) := bD eF tF (.c2 l i n_)
theorem sP (eF tF l i) : ec eF tF l i = (if i < (eF.length : Int) then (idx eF i) >>= fun t17 => (if t17.Op = 7 then (idx tF.Vars (w64 t17.Val)) >>= fun t29 => eU eF tF l i (⟨3, 0, t29.Name, (⟨0, 0⟩ : bd)⟩ : ae) else (if t17.Op = 8 then (idx tF.Timers (w64 t17.Val)) >>= fun t38 => eU eF tF l i (⟨3, 0, t38, (⟨0, 0⟩ : bd)⟩ : ae) else (if t17.Op = 9 then (idx tF.Counters (w64 t17.Val)) >>= fun t46 => eU eF tF l i (⟨3, 0, t46, (⟨0, 0⟩ : bd)⟩ : ae) else (if t17.Op = 10 then (idx tF.Dets (w64 t17.Val)) >>= fun t54 => eU eF tF l i (⟨3, 0, t54.Name, (⟨0, 0⟩ : bd)⟩ : ae) else (if t17.Op = 5 then mK eF tF l i t17 (w64 t17.Val) else (if t17.Op = 6 then mK eF tF l i t17 (w64 t17.Val) else eU eF tF l i t17)))))) else some l) := by
 conv => lhs; unfold ec; unfold bD
 rfl
theorem B3 (eF tF l i n_ v) : mK eF tF l i n_ v = (idx tF.Tables.Groups v) >>= fun t67 => eU eF tF l i (⟨n_.Op, 0, t67.Name, (⟨0, 0⟩ : bd)⟩ : ae) := by
 conv => lhs; unfold mK; unfold bD
 rfl
theorem B4 (eF tF l i n_) : eU eF tF l i n_ = (app 48 l [n_]) >>= fun t74 => ec eF tF t74 (w64 (i + 1)) := by
 conv => lhs; unfold eU; unfold bD
 rfl
def oE (t : ab) (e : List ae) : Option (List ae) :=
 ec e t [] 0
inductive kE where
 | c0 (out : List ac) (i : Int)
 | c1 (out : List ac) (i : Int) (s_ : ac)
 | c2 (out : List ac) (i : Int) (s_ : ac)
def bc (lF : List ac) (tF : ab) (st : kE) : Option (List ac) :=
 match st with
 | .c0 out i => if i < (lF.length : Int) then (idx lF i) >>= fun t16 => (idx lF i) >>= fun t22 => (oE tF t22.Expr) >>= fun t25 => (if t16.Kind = 1 then (idx lF i) >>= fun t35 => (idx tF.Vars t35.Ix) >>= fun t38 => bc lF tF (.c2 out i (⟨t16.Kind, t38.Name, 0, t25, (⟨0, 0⟩ : bd)⟩ : ac)) else (if t16.Kind = 2 then bc lF tF (.c1 out i (⟨t16.Kind, ⟨#[]⟩, 0, t25, (⟨0, 0⟩ : bd)⟩ : ac)) else (if t16.Kind = 3 then bc lF tF (.c1 out i (⟨t16.Kind, ⟨#[]⟩, 0, t25, (⟨0, 0⟩ : bd)⟩ : ac)) else (if t16.Kind = 4 then bc lF tF (.c1 out i (⟨t16.Kind, ⟨#[]⟩, 0, t25, (⟨0, 0⟩ : bd)⟩ : ac)) else (if t16.Kind = 5 then (idx lF i) >>= fun t62 => (idx tF.Counters t62.Ix) >>= fun t65 => bc lF tF (.c2 out i (⟨t16.Kind, t65, 0, t25, (⟨0, 0⟩ : bd)⟩ : ac)) else (if t16.Kind = 10 then (idx lF i) >>= fun t74 => (idx tF.Counters t74.Ix) >>= fun t77 => bc lF tF (.c2 out i (⟨2, t77, 0, t25, (⟨0, 0⟩ : bd)⟩ : ac)) else (if t16.Kind = 6 then (idx lF i) >>= fun t87 => (idx tF.Dets t87.Ix) >>= fun t90 => bc lF tF (.c2 out i (⟨t16.Kind, t90.Name, 0, t25, (⟨0, 0⟩ : bd)⟩ : ac)) else bc lF tF (.c2 out i (⟨t16.Kind, ⟨#[]⟩, 0, t25, (⟨0, 0⟩ : bd)⟩ : ac))))))))) else some out
 | .c1 out i s_ => (idx lF i) >>= fun t50 => (idx tF.Timers t50.Ix) >>= fun t53 => bc lF tF (.c2 out i (⟨s_.Kind, t53, s_.Ix, s_.Expr, s_.At⟩ : ac))
 | .c2 out i s_ => (app 72 out [s_]) >>= fun t97 => bc lF tF (.c0 t97 (w64 (i + 1)))
  partial_fixpoint
def cH (lF : List ac) (tF : ab) (out : List ac) (i : Int) : Option (List ac) := bc lF tF (.c0 out i)
def gW (lF : List ac) (tF : ab) (out : List ac) (i : Int) (s_ : ac) : Option (List ac) := bc lF tF (.c1 out i s_)
def dg (lF : List ac) (tF : ab) (out : List ac) (i : Int) (s_ : ac) : Option (List ac) := bc lF tF (.c2 out i s_)
theorem oF (lF tF out i) : cH lF tF out i = (if i < (lF.length : Int) then (idx lF i) >>= fun t16 => (idx lF i) >>= fun t22 => (oE tF t22.Expr) >>= fun t25 => (if t16.Kind = 1 then (idx lF i) >>= fun t35 => (idx tF.Vars t35.Ix) >>= fun t38 => dg lF tF out i (⟨t16.Kind, t38.Name, 0, t25, (⟨0, 0⟩ : bd)⟩ : ac) else (if t16.Kind = 2 then gW lF tF out i (⟨t16.Kind, ⟨#[]⟩, 0, t25, (⟨0, 0⟩ : bd)⟩ : ac) else (if t16.Kind = 3 then gW lF tF out i (⟨t16.Kind, ⟨#[]⟩, 0, t25, (⟨0, 0⟩ : bd)⟩ : ac) else (if t16.Kind = 4 then gW lF tF out i (⟨t16.Kind, ⟨#[]⟩, 0, t25, (⟨0, 0⟩ : bd)⟩ : ac) else (if t16.Kind = 5 then (idx lF i) >>= fun t62 => (idx tF.Counters t62.Ix) >>= fun t65 => dg lF tF out i (⟨t16.Kind, t65, 0, t25, (⟨0, 0⟩ : bd)⟩ : ac) else (if t16.Kind = 10 then (idx lF i) >>= fun t74 => (idx tF.Counters t74.Ix) >>= fun t77 => dg lF tF out i (⟨2, t77, 0, t25, (⟨0, 0⟩ : bd)⟩ : ac) else (if t16.Kind = 6 then (idx lF i) >>= fun t87 => (idx tF.Dets t87.Ix) >>= fun t90 => dg lF tF out i (⟨t16.Kind, t90.Name, 0, t25, (⟨0, 0⟩ : bd)⟩ : ac) else dg lF tF out i (⟨t16.Kind, ⟨#[]⟩, 0, t25, (⟨0, 0⟩ : bd)⟩ : ac)))))))) else some out) := by
 conv => lhs; unfold cH; unfold bc
 rfl
theorem wa (lF tF out i s_) : gW lF tF out i s_ = (idx lF i) >>= fun t50 => (idx tF.Timers t50.Ix) >>= fun t53 => dg lF tF out i (⟨s_.Kind, t53, s_.Ix, s_.Expr, s_.At⟩ : ac) := by
 conv => lhs; unfold gW; unfold bc
 rfl
theorem wb (lF tF out i s_) : dg lF tF out i s_ = (app 72 out [s_]) >>= fun t97 => cH lF tF t97 (w64 (i + 1)) := by
 conv => lhs; unfold dg; unfold bc
 rfl
def fh (t : ab) (l : List ac) : Option (List ac) :=
 cH l t [] 0
def cR (t : ab) (s_ : ah) (Green : List ByteArray) (Enter : List ac) (During : List ac) (Leave : List ac) (Nexts : List da) (i : Int) : Option bn :=
 if i < (s_.Nexts.length : Int) then (idx s_.Nexts i) >>= fun t63 => (idx t.Stages t63.To) >>= fun t66 => (idx s_.Nexts i) >>= fun t73 => (oE t t73.When) >>= fun t76 => (app 56 Nexts [(⟨t66.Name, t76, (⟨0, 0⟩ : bd)⟩ : da)]) >>= fun t79 => cR t s_ Green Enter During Leave t79 (w64 (i + 1)) else some (⟨Green, Enter, During, Leave, Nexts⟩ : bn)
  partial_fixpoint
inductive kc where
 | c0 (Green : List ByteArray) (g_ : Int)
 | c1 (Green : List ByteArray) (g_ : Int)
def cj (tF : ab) (s_F : ah) (st : kc) : Option bn :=
 match st with
 | .c0 Green g_ => if g_ < (tF.Tables.Groups.length : Int) then (qx .u64 s_F.Green g_) >>= fun t19 => (if (EI .u64 t19 1) = 1 then (idx tF.Tables.Groups g_) >>= fun t28 => (app 16 Green [t28.Name]) >>= fun t32 => cj tF s_F (.c1 t32 g_) else cj tF s_F (.c1 Green g_)) else (fh tF s_F.Enter) >>= fun t37 => (fh tF s_F.During) >>= fun t42 => (fh tF s_F.Leave) >>= fun t47 => cR tF s_F Green t37 t42 t47 [] 0
 | .c1 Green g_ => cj tF s_F (.c0 Green (w64 (g_ + 1)))
  partial_fixpoint
def dt (tF : ab) (s_F : ah) (Green : List ByteArray) (g_ : Int) : Option bn := cj tF s_F (.c0 Green g_)
def gI (tF : ab) (s_F : ah) (Green : List ByteArray) (g_ : Int) : Option bn := cj tF s_F (.c1 Green g_)
theorem nE (tF s_F Green g_) : dt tF s_F Green g_ = (if g_ < (tF.Tables.Groups.length : Int) then (qx .u64 s_F.Green g_) >>= fun t19 => (if (EI .u64 t19 1) = 1 then (idx tF.Tables.Groups g_) >>= fun t28 => (app 16 Green [t28.Name]) >>= fun t32 => gI tF s_F t32 g_ else gI tF s_F Green g_) else (fh tF s_F.Enter) >>= fun t37 => (fh tF s_F.During) >>= fun t42 => (fh tF s_F.Leave) >>= fun t47 => cR tF s_F Green t37 t42 t47 [] 0) := by
 conv => lhs; unfold dt; unfold cj
 rfl
theorem vg (tF s_F Green g_) : gI tF s_F Green g_ = dt tF s_F Green (w64 (g_ + 1)) := by
 conv => lhs; unfold gI; unfold cj
 rfl
def kM (t : ab) (s_ : ah) : Option bn :=
 dt t s_ [] 0
def fH (t : ab) (Name : ByteArray) (Name1 : ByteArray) (Decls : List aV) (i : Int) : Option (aW × Int) :=
 if i < (t.Stages.length : Int) then (idx t.Stages i) >>= fun t226 => (idx t.Stages i) >>= fun t233 => (kM t t233) >>= fun t235 => (app 224 Decls [(⟨9, (⟨0, 0⟩ : bd), t226.Name, ⟨#[]⟩, 0, (⟨0, 0, 0⟩ : (A3 Int)), [], t235⟩ : aV)]) >>= fun t238 => fH t Name Name1 t238 (w64 (i + 1)) else (idx t.Stages t.Start) >>= fun t246 => (app 224 Decls [(⟨10, (⟨0, 0⟩ : bd), t246.Name, ⟨#[]⟩, 0, (⟨0, 0, 0⟩ : (A3 Int)), [], (⟨[], [], [], [], []⟩ : bn)⟩ : aV)]) >>= fun t251 => some ((⟨Name1, t251⟩ : aW), 0)
  partial_fixpoint
def fI (t : ab) (Name : ByteArray) (Name1 : ByteArray) (Decls : List aV) (i : Int) : Option (aW × Int) :=
 if i < (t.Vars.length : Int) then (idx t.Vars i) >>= fun t200 => (idx t.Vars i) >>= fun t206 => (app 224 Decls [(⟨7, (⟨0, 0⟩ : bd), t200.Name, ⟨#[]⟩, 0, (⟨t206.Init, 0, 0⟩ : (A3 Int)), [], (⟨[], [], [], [], []⟩ : bn)⟩ : aV)]) >>= fun t212 => fI t Name Name1 t212 (w64 (i + 1)) else fH t Name Name1 Decls 0
  partial_fixpoint
def fJ (t : ab) (Name : ByteArray) (Name1 : ByteArray) (Decls : List aV) (i : Int) : Option (aW × Int) :=
 if i < (t.Counters.length : Int) then (idx t.Counters i) >>= fun t182 => (app 224 Decls [(⟨6, (⟨0, 0⟩ : bd), t182, ⟨#[]⟩, 0, (⟨0, 0, 0⟩ : (A3 Int)), [], (⟨[], [], [], [], []⟩ : bn)⟩ : aV)]) >>= fun t186 => fJ t Name Name1 t186 (w64 (i + 1)) else fI t Name Name1 Decls 0
  partial_fixpoint
def eW (t : ab) (Name : ByteArray) (Name1 : ByteArray) (Decls : List aV) (i : Int) : Option (aW × Int) :=
 if i < (t.Timers.length : Int) then (idx t.Timers i) >>= fun t164 => (app 224 Decls [(⟨5, (⟨0, 0⟩ : bd), t164, ⟨#[]⟩, 0, (⟨0, 0, 0⟩ : (A3 Int)), [], (⟨[], [], [], [], []⟩ : bn)⟩ : aV)]) >>= fun t168 => eW t Name Name1 t168 (w64 (i + 1)) else fJ t Name Name1 Decls 0
  partial_fixpoint
inductive sQ where
 | c0 (Decls : List aV) (i : Int)
 | c1 (Decls : List aV) (i : Int) (Kind : Int) (At_Line : Int) (At_Col : Int) (Name2 : ByteArray) (With : ByteArray) (Sort_ : Int) (N_e0 : Int) (N_e1 : Int) (N_e2 : Int)
def ei (tF : ab) (NameF : ByteArray) (Name1F : ByteArray) (st : sQ) : Option (aW × Int) :=
 match st with
 | .c0 Decls i => if i < (tF.Dets.length : Int) then (idx tF.Dets i) >>= fun t120 => (idx tF.Dets i) >>= fun t126 => (idx tF.Dets i) >>= fun t133 => (idx tF.Dets i) >>= fun t142 => (if t142.Latch = true then ei tF NameF Name1F (.c1 Decls i 4 0 0 t120.Name ⟨#[]⟩ 1 (IntKind.i32.wrap t126.Delay) (IntKind.i32.wrap t133.Hold) 0) else ei tF NameF Name1F (.c1 Decls i 4 0 0 t120.Name ⟨#[]⟩ 0 (IntKind.i32.wrap t126.Delay) (IntKind.i32.wrap t133.Hold) 0)) else eW tF NameF Name1F Decls 0
 | .c1 Decls i Kind At_Line At_Col Name2 With Sort_ N_e0 N_e1 N_e2 => (app 224 Decls [(⟨Kind, (⟨At_Line, At_Col⟩ : bd), Name2, With, Sort_, (⟨N_e0, N_e1, N_e2⟩ : (A3 Int)), [], (⟨[], [], [], [], []⟩ : bn)⟩ : aV)]) >>= fun t150 => ei tF NameF Name1F (.c0 t150 (w64 (i + 1)))
  partial_fixpoint
def gj (tF : ab) (NameF : ByteArray) (Name1F : ByteArray) (Decls : List aV) (i : Int) : Option (aW × Int) := ei tF NameF Name1F (.c0 Decls i)
def lK (tF : ab) (NameF : ByteArray) (Name1F : ByteArray) (Decls : List aV) (i : Int) (Kind : Int) (At_Line : Int) (At_Col : Int) (Name2 : ByteArray) (With : ByteArray) (Sort_ : Int) (N_e0 : Int) (N_e1 : Int) (N_e2 : Int) : Option (aW × Int) := ei tF NameF Name1F (.c1 Decls i Kind At_Line At_Col Name2 With Sort_ N_e0 N_e1 N_e2)
theorem wI (tF NameF Name1F Decls i) : gj tF NameF Name1F Decls i = (if i < (tF.Dets.length : Int) then (idx tF.Dets i) >>= fun t120 => (idx tF.Dets i) >>= fun t126 => (idx tF.Dets i) >>= fun t133 => (idx tF.Dets i) >>= fun t142 => (if t142.Latch = true then lK tF NameF Name1F Decls i 4 0 0 t120.Name ⟨#[]⟩ 1 (IntKind.i32.wrap t126.Delay) (IntKind.i32.wrap t133.Hold) 0 else lK tF NameF Name1F Decls i 4 0 0 t120.Name ⟨#[]⟩ 0 (IntKind.i32.wrap t126.Delay) (IntKind.i32.wrap t133.Hold) 0) else eW tF NameF Name1F Decls 0) := by
 conv => lhs; unfold gj; unfold ei
 rfl
theorem Ej (tF NameF Name1F Decls i Kind At_Line At_Col Name2 With Sort_ N_e0 N_e1 N_e2) : lK tF NameF Name1F Decls i Kind At_Line At_Col Name2 With Sort_ N_e0 N_e1 N_e2 = (app 224 Decls [(⟨Kind, (⟨At_Line, At_Col⟩ : bd), Name2, With, Sort_, (⟨N_e0, N_e1, N_e2⟩ : (A3 Int)), [], (⟨[], [], [], [], []⟩ : bn)⟩ : aV)]) >>= fun t150 => gj tF NameF Name1F t150 (w64 (i + 1)) := by
 conv => lhs; unfold lK; unfold ei
 rfl
def fK (t : ab) (Name : ByteArray) (Name1 : ByteArray) (Decls : List aV) (l : List ak) (i : Int) : Option (aW × Int) :=
 if i < (t.Tables.Conflicts.length : Int) then (idx t.Tables.Conflicts i) >>= fun t83 => (idx l t83.A) >>= fun t90 => (idx l t83.B) >>= fun t96 => (app 224 Decls [(⟨3, (⟨0, 0⟩ : bd), t90.Name, t96.Name, 0, (⟨(IntKind.i32.wrap t83.AB), (IntKind.i32.wrap t83.BA), 0⟩ : (A3 Int)), [], (⟨[], [], [], [], []⟩ : bn)⟩ : aV)]) >>= fun t108 => fK t Name Name1 t108 l (w64 (i + 1)) else gj t Name Name1 Decls 0
  partial_fixpoint
def fL (t : ab) (Name : ByteArray) (Name1 : ByteArray) (Decls : List aV) (l : List ak) (i : Int) : Option (aW × Int) :=
 if i < (l.length : Int) then (idx l i) >>= fun t40 => (idx l i) >>= fun t45 => (idx l i) >>= fun t50 => (idx l i) >>= fun t56 => (idx l i) >>= fun t62 => (app 224 Decls [(⟨2, (⟨0, 0⟩ : bd), t40.Name, ⟨#[]⟩, t45.Sort_, (⟨(IntKind.i32.wrap t50.Min), (IntKind.i32.wrap t56.Amber), (IntKind.i32.wrap t62.Lead)⟩ : (A3 Int)), [], (⟨[], [], [], [], []⟩ : bn)⟩ : aV)]) >>= fun t69 => fL t Name Name1 t69 l (w64 (i + 1)) else fK t Name Name1 Decls l 0
  partial_fixpoint
def ry (Name : ByteArray) : Option (aW × Int) :=
 some ((⟨⟨#[]⟩, []⟩ : aW), 80)
def zt (t : ab) : Option (aW × Int) :=
 (vZ t) >>= fun t16 => (if t16 = true then (uo t) >>= fun t20 => (if t20 = true then fL t ⟨#[]⟩ t.Name [] t.Tables.Groups 0 else ry ⟨#[]⟩) else ry ⟨#[]⟩)
def ew (a : List ae) (b : List ae) (i : Int) : Option Bool :=
 if i < (a.length : Int) then (idx a i) >>= fun t19 => (idx b i) >>= fun t23 => (if (!(decide (t19.Op = t23.Op) && (decide (t19.Val = t23.Val) && (decide (t19.Name = t23.Name) && (decide (t19.At.Line = t23.At.Line) && (decide (t19.At.Col = t23.At.Col) && true)))))) = true then some false else ew a b (w64 (i + 1))) else some true
  partial_fixpoint
def iA (a : List ae) (b : List ae) : Option Bool :=
 if (a.length : Int) = (b.length : Int) then ew a b 0 else some false
def dH (a : List ByteArray) (b : List ByteArray) (i : Int) : Option Bool :=
 if i < (a.length : Int) then (idx a i) >>= fun t19 => (idx b i) >>= fun t23 => (if t19 = t23 then dH a b (w64 (i + 1)) else some false) else some true
  partial_fixpoint
def im (a : List ByteArray) (b : List ByteArray) : Option Bool :=
 if (a.length : Int) = (b.length : Int) then dH a b 0 else some false
def cS (a : List ac) (b : List ac) (i : Int) : Option Bool :=
 if i < (a.length : Int) then (idx a i) >>= fun t19 => (idx b i) >>= fun t24 => (if t19.Kind = t24.Kind then (idx a i) >>= fun t31 => (idx b i) >>= fun t36 => (if t31.Name = t36.Name then (idx a i) >>= fun t44 => (idx b i) >>= fun t49 => (if t44.Ix = t49.Ix then (idx a i) >>= fun t57 => (idx b i) >>= fun t62 => (if (!(decide (t57.At.Line = t62.At.Line) && (decide (t57.At.Col = t62.At.Col) && true))) = true then some false else (idx a i) >>= fun t70 => (idx b i) >>= fun t75 => (iA t70.Expr t75.Expr) >>= fun t78 => (if t78 = true then cS a b (w64 (i + 1)) else some false)) else some false) else some false) else some false) else some true
  partial_fixpoint
def dW (a : List ac) (b : List ac) : Option Bool :=
 if (a.length : Int) = (b.length : Int) then cS a b 0 else some false
def ey (a : bn) (b : bn) (i : Int) : Option Bool :=
 if i < (a.Nexts.length : Int) then (idx a.Nexts i) >>= fun t31 => (idx b.Nexts i) >>= fun t37 => (if t31.To = t37.To then (idx a.Nexts i) >>= fun t45 => (idx b.Nexts i) >>= fun t51 => (if (!(decide (t45.At.Line = t51.At.Line) && (decide (t45.At.Col = t51.At.Col) && true))) = true then some false else (idx a.Nexts i) >>= fun t60 => (idx b.Nexts i) >>= fun t66 => (iA t60.When t66.When) >>= fun t69 => (if t69 = true then ey a b (w64 (i + 1)) else some false)) else some false) else (dW a.Enter b.Enter) >>= fun t76 => (if t76 = true then (dW a.During b.During) >>= fun t82 => (if t82 = true then (dW a.Leave b.Leave) >>= fun t89 => some t89 else some false) else some false)
  partial_fixpoint
def oG (a : bn) (b : bn) : Option Bool :=
 (im a.Green b.Green) >>= fun t10 => (if t10 = true then (if (a.Nexts.length : Int) = (b.Nexts.length : Int) then ey a b 0 else some false) else some false)
def fi (a : aW) (b : aW) (i : Int) : Option Bool :=
 if i < (a.Decls.length : Int) then (idx a.Decls i) >>= fun t32 => (idx b.Decls i) >>= fun t37 => (if t32.Kind = t37.Kind then (if (!(decide (t32.At.Line = t37.At.Line) && (decide (t32.At.Col = t37.At.Col) && true))) = true then some false else (if t32.Name = t37.Name then (if t32.With = t37.With then (if t32.Sort_ = t37.Sort_ then (if (!(decide (t32.N.e0 = t37.N.e0) && (decide (t32.N.e1 = t37.N.e1) && (decide (t32.N.e2 = t37.N.e2) && true)))) = true then some false else (iA t32.Expr t37.Expr) >>= fun t83 => (if t83 = true then (oG t32.Stage t37.Stage) >>= fun t90 => (if t90 = true then fi a b (w64 (i + 1)) else some false) else some false)) else some false) else some false) else some false)) else some false) else some true
  partial_fixpoint
def pS (a : aW) (b : aW) : Option Bool :=
 if a.Name = b.Name then (if (a.Decls.length : Int) = (b.Decls.length : Int) then fi a b 0 else some false) else some false
def dX (a : aI) (b : aI) (i : Int) : Option Bool :=
 if i < (a.Conflicts.length : Int) then (idx a.Conflicts i) >>= fun t51 => (idx b.Conflicts i) >>= fun t56 => (if (!(decide (t51.A = t56.A) && (decide (t51.B = t56.B) && (decide (t51.AB = t56.AB) && (decide (t51.BA = t56.BA) && true))))) = true then some false else dX a b (w64 (i + 1))) else some true
  partial_fixpoint
def dY (a : aI) (b : aI) (i : Int) : Option Bool :=
 if i < (a.Groups.length : Int) then (idx a.Groups i) >>= fun t33 => (idx b.Groups i) >>= fun t38 => (if (!(decide (t33.Name = t38.Name) && (decide (t33.Sort_ = t38.Sort_) && (decide (t33.Min = t38.Min) && (decide (t33.Amber = t38.Amber) && (decide (t33.Lead = t38.Lead) && true)))))) = true then some false else dY a b (w64 (i + 1))) else dX a b 0
  partial_fixpoint
def mL (a : aI) (b : aI) : Option Bool :=
 if (a.Groups.length : Int) = (b.Groups.length : Int) then (if (a.Conflicts.length : Int) = (b.Conflicts.length : Int) then dY a b 0 else some false) else some false
def ez (a : ah) (b : ah) (i : Int) : Option Bool :=
 if i < (a.Nexts.length : Int) then (idx a.Nexts i) >>= fun t44 => (idx b.Nexts i) >>= fun t50 => (if t44.To = t50.To then (idx a.Nexts i) >>= fun t58 => (idx b.Nexts i) >>= fun t64 => (iA t58.When t64.When) >>= fun t67 => (if t67 = true then ez a b (w64 (i + 1)) else some false) else some false) else (dW a.Enter b.Enter) >>= fun t74 => (if t74 = true then (dW a.During b.During) >>= fun t80 => (if t80 = true then (dW a.Leave b.Leave) >>= fun t87 => some t87 else some false) else some false)
  partial_fixpoint
def oH (a : ah) (b : ah) : Option Bool :=
 if a.Name = b.Name then (if a.Id = b.Id then (if a.Green = b.Green then (if (a.Nexts.length : Int) = (b.Nexts.length : Int) then ez a b 0 else some false) else some false) else some false) else some false
def eB (a : ab) (b : ab) (i : Int) : Option Bool :=
 if i < (a.Stages.length : Int) then (idx a.Stages i) >>= fun t115 => (idx b.Stages i) >>= fun t120 => (oH t115 t120) >>= fun t122 => (if t122 = true then eB a b (w64 (i + 1)) else some false) else some true
  partial_fixpoint
def eC (a : ab) (b : ab) (i : Int) : Option Bool :=
 if i < (a.Vars.length : Int) then (idx a.Vars i) >>= fun t97 => (idx b.Vars i) >>= fun t102 => (if (!(decide (t97.Name = t102.Name) && (decide (t97.Init = t102.Init) && true))) = true then some false else eC a b (w64 (i + 1))) else eB a b 0
  partial_fixpoint
def eD (a : ab) (b : ab) (i : Int) : Option Bool :=
 if i < (a.Dets.length : Int) then (idx a.Dets i) >>= fun t79 => (idx b.Dets i) >>= fun t84 => (if (!(decide (t79.Name = t84.Name) && (decide (t79.Latch = t84.Latch) && (decide (t79.Delay = t84.Delay) && (decide (t79.Hold = t84.Hold) && true))))) = true then some false else eD a b (w64 (i + 1))) else eC a b 0
  partial_fixpoint
def oI (a : ab) (b : ab) : Option Bool :=
 if a.Name = b.Name then (if a.Start = b.Start then (mL a.Tables b.Tables) >>= fun t25 => (if t25 = true then (im a.Timers b.Timers) >>= fun t33 => (if t33 = true then (im a.Counters b.Counters) >>= fun t41 => (if t41 = true then (if (a.Dets.length : Int) = (b.Dets.length : Int) then (if (a.Vars.length : Int) = (b.Vars.length : Int) then (if (a.Stages.length : Int) = (b.Stages.length : Int) then eD a b 0 else some false) else some false) else some false) else some false) else some false) else some false) else some false) else some false
def np (nodes : LL ae) (stmts : LL ac) (tnexts : LL aw) (stages : LL ah) (groups : LL ak) (pairs : LL ai) (dets : LL aE) (vars : LL aN) (texts : LL ByteArray) (i : Int) : Option (Bool × R9) :=
 if i < 0 then none else some (true, nodes, stmts, tnexts, stages, groups, pairs, dets, vars, texts)
def cU (nodes : LL ae) (stmts : LL ac) (tnexts : LL aw) (stages : LL ah) (groups : LL ak) (pairs : LL ai) (dets : LL aE) (vars : LL aN) (texts : LL ByteArray) (i : Int) : Option (Bool × R9) :=
 if i < (stages.length : Int) then (idx stages i) >>= fun t165 => (idx t165 (w64 ((t165.length : Int) - 2))) >>= fun t171 => (if t171.Id = 4444 then (idx t165 (w64 ((t165.length : Int) - 1))) >>= fun t180 => (if t180.Id = 4444 then cU nodes stmts tnexts stages groups pairs dets vars texts (w64 (i + 1)) else some (false, nodes, stmts, tnexts, stages, groups, pairs, dets, vars, texts)) else some (false, nodes, stmts, tnexts, stages, groups, pairs, dets, vars, texts)) else np nodes stmts tnexts stages groups pairs dets vars texts 0
  partial_fixpoint
def nq (nodes : LL ae) (stmts : LL ac) (tnexts : LL aw) (stages : LL ah) (groups : LL ak) (pairs : LL ai) (dets : LL aE) (vars : LL aN) (texts : LL ByteArray) (i : Int) : Option (Bool × R9) :=
 if i < 0 then none else cU nodes stmts tnexts stages groups pairs dets vars texts 0
def cV (nodes : LL ae) (stmts : LL ac) (tnexts : LL aw) (stages : LL ah) (groups : LL ak) (pairs : LL ai) (dets : LL aE) (vars : LL aN) (texts : LL ByteArray) (i : Int) : Option (Bool × R9) :=
 if i < (tnexts.length : Int) then (idx tnexts i) >>= fun t97 => (idx t97 (w64 ((t97.length : Int) - 2))) >>= fun t103 => (if t103.To = 4444 then (idx t97 (w64 ((t97.length : Int) - 1))) >>= fun t112 => (if t112.To = 4444 then cV nodes stmts tnexts stages groups pairs dets vars texts (w64 (i + 1)) else some (false, nodes, stmts, tnexts, stages, groups, pairs, dets, vars, texts)) else some (false, nodes, stmts, tnexts, stages, groups, pairs, dets, vars, texts)) else nq nodes stmts tnexts stages groups pairs dets vars texts 0
  partial_fixpoint
def cW (nodes : LL ae) (stmts : LL ac) (tnexts : LL aw) (stages : LL ah) (groups : LL ak) (pairs : LL ai) (dets : LL aE) (vars : LL aN) (texts : LL ByteArray) (i : Int) : Option (Bool × R9) :=
 if i < (stmts.length : Int) then (idx stmts i) >>= fun t63 => (idx t63 (w64 ((t63.length : Int) - 2))) >>= fun t69 => (if t69.Kind = 4444 then (idx t63 (w64 ((t63.length : Int) - 1))) >>= fun t78 => (if t78.Kind = 4444 then cW nodes stmts tnexts stages groups pairs dets vars texts (w64 (i + 1)) else some (false, nodes, stmts, tnexts, stages, groups, pairs, dets, vars, texts)) else some (false, nodes, stmts, tnexts, stages, groups, pairs, dets, vars, texts)) else cV nodes stmts tnexts stages groups pairs dets vars texts 0
  partial_fixpoint
def cX (nodes : LL ae) (stmts : LL ac) (tnexts : LL aw) (stages : LL ah) (groups : LL ak) (pairs : LL ai) (dets : LL aE) (vars : LL aN) (texts : LL ByteArray) (i : Int) : Option (Bool × R9) :=
 if i < (nodes.length : Int) then (idx nodes i) >>= fun t29 => (idx t29 (w64 ((t29.length : Int) - 2))) >>= fun t35 => (if t35.Op = 4444 then (idx t29 (w64 ((t29.length : Int) - 1))) >>= fun t44 => (if t44.Op = 4444 then cX nodes stmts tnexts stages groups pairs dets vars texts (w64 (i + 1)) else some (false, nodes, stmts, tnexts, stages, groups, pairs, dets, vars, texts)) else some (false, nodes, stmts, tnexts, stages, groups, pairs, dets, vars, texts)) else cW nodes stmts tnexts stages groups pairs dets vars texts 0
  partial_fixpoint
def mM (nodes : LL ae) (stmts : LL ac) (tnexts : LL aw) (stages : LL ah) (groups : LL ak) (pairs : LL ai) (dets : LL aE) (vars : LL aN) (texts : LL ByteArray) : Option (Bool × R9) :=
 cX nodes stmts tnexts stages groups pairs dets vars texts 0
def lX (nodes : LL ae) (stmts : LL ac) (tnexts : LL aw) (stages : LL ah) (groups : LL ak) (pairs : LL ai) (dets : LL aE) (vars : LL aN) (texts : LL ByteArray) (i : Int) : Option (Bool × R9) :=
 if i < 0 then none else some (true, nodes, stmts, tnexts, stages, groups, pairs, dets, vars, texts)
def lY (nodes : LL ae) (stmts : LL ac) (tnexts : LL aw) (stages : LL ah) (groups : LL ak) (pairs : LL ai) (dets : LL aE) (vars : LL aN) (texts : LL ByteArray) (i : Int) : Option (Bool × R9) :=
 if i < 0 then none else lX nodes stmts tnexts stages groups pairs dets vars texts 0
def cI (nodes : LL ae) (stmts : LL ac) (tnexts : LL aw) (stages : LL ah) (groups : LL ak) (pairs : LL ai) (dets : LL aE) (vars : LL aN) (texts : LL ByteArray) (i : Int) : Option (Bool × R9) :=
 if i < (vars.length : Int) then (idx vars i) >>= fun t124 => (idx t124 (w64 ((t124.length : Int) - 2))) >>= fun t130 => (if t130.Init = 4444 then (idx t124 (w64 ((t124.length : Int) - 1))) >>= fun t139 => (if t139.Init = 4444 then cI nodes stmts tnexts stages groups pairs dets vars texts (w64 (i + 1)) else some (false, nodes, stmts, tnexts, stages, groups, pairs, dets, vars, texts)) else some (false, nodes, stmts, tnexts, stages, groups, pairs, dets, vars, texts)) else lY nodes stmts tnexts stages groups pairs dets vars texts 0
  partial_fixpoint
def cJ (nodes : LL ae) (stmts : LL ac) (tnexts : LL aw) (stages : LL ah) (groups : LL ak) (pairs : LL ai) (dets : LL aE) (vars : LL aN) (texts : LL ByteArray) (i : Int) : Option (Bool × R9) :=
 if i < (dets.length : Int) then (idx dets i) >>= fun t90 => (idx t90 (w64 ((t90.length : Int) - 2))) >>= fun t96 => (if t96.Delay = 4444 then (idx t90 (w64 ((t90.length : Int) - 1))) >>= fun t105 => (if t105.Delay = 4444 then cJ nodes stmts tnexts stages groups pairs dets vars texts (w64 (i + 1)) else some (false, nodes, stmts, tnexts, stages, groups, pairs, dets, vars, texts)) else some (false, nodes, stmts, tnexts, stages, groups, pairs, dets, vars, texts)) else cI nodes stmts tnexts stages groups pairs dets vars texts 0
  partial_fixpoint
def cK (nodes : LL ae) (stmts : LL ac) (tnexts : LL aw) (stages : LL ah) (groups : LL ak) (pairs : LL ai) (dets : LL aE) (vars : LL aN) (texts : LL ByteArray) (i : Int) : Option (Bool × R9) :=
 if i < (groups.length : Int) then (idx groups i) >>= fun t29 => (idx pairs i) >>= fun t36 => (idx t29 (w64 ((t29.length : Int) - 2))) >>= fun t42 => (if t42.Min = 4444 then (idx t29 (w64 ((t29.length : Int) - 1))) >>= fun t51 => (if t51.Min = 4444 then (idx t36 (w64 ((t36.length : Int) - 2))) >>= fun t61 => (if t61.A = 4444 then (idx t36 (w64 ((t36.length : Int) - 1))) >>= fun t71 => (if t71.A = 4444 then cK nodes stmts tnexts stages groups pairs dets vars texts (w64 (i + 1)) else some (false, nodes, stmts, tnexts, stages, groups, pairs, dets, vars, texts)) else some (false, nodes, stmts, tnexts, stages, groups, pairs, dets, vars, texts)) else some (false, nodes, stmts, tnexts, stages, groups, pairs, dets, vars, texts)) else some (false, nodes, stmts, tnexts, stages, groups, pairs, dets, vars, texts)) else cJ nodes stmts tnexts stages groups pairs dets vars texts 0
  partial_fixpoint
def lL (nodes : LL ae) (stmts : LL ac) (tnexts : LL aw) (stages : LL ah) (groups : LL ak) (pairs : LL ai) (dets : LL aE) (vars : LL aN) (texts : LL ByteArray) : Option (Bool × R9) :=
 cK nodes stmts tnexts stages groups pairs dets vars texts 0
def nr (nodes : LL ae) (stmts : LL ac) (tnexts : LL aw) (stages : LL ah) (groups : LL ak) (pairs : LL ai) (dets : LL aE) (vars : LL aN) (texts : LL ByteArray) (i : Int) : Option (Bool × R9) :=
 if i < 0 then none else (mM nodes stmts tnexts stages groups pairs dets vars texts) >>= fun t140 => (if t140.1 = true then (lL t140.2.1 t140.2.2.1 t140.2.2.2.1 t140.2.2.2.2.1 t140.2.2.2.2.2.1 t140.2.2.2.2.2.2.1 t140.2.2.2.2.2.2.2.1 t140.2.2.2.2.2.2.2.2.1 t140.2.2.2.2.2.2.2.2.2) >>= fun t143 => some (t143.1, t143.2.1, t143.2.2.1, t143.2.2.2.1, t143.2.2.2.2.1, t143.2.2.2.2.2.1, t143.2.2.2.2.2.2.1, t143.2.2.2.2.2.2.2.1, t143.2.2.2.2.2.2.2.2.1, t143.2.2.2.2.2.2.2.2.2) else some (false, t140.2.1, t140.2.2.1, t140.2.2.2.1, t140.2.2.2.2.1, t140.2.2.2.2.2.1, t140.2.2.2.2.2.2.1, t140.2.2.2.2.2.2.2.1, t140.2.2.2.2.2.2.2.2.1, t140.2.2.2.2.2.2.2.2.2))
def ns (nodes : LL ae) (stmts : LL ac) (tnexts : LL aw) (stages : LL ah) (groups : LL ak) (pairs : LL ai) (dets : LL aE) (vars : LL aN) (texts : LL ByteArray) (i : Int) : Option (Bool × R9) :=
 if i < 0 then none else nr nodes stmts tnexts stages groups pairs dets vars texts 0
def nt (nodes : LL ae) (stmts : LL ac) (tnexts : LL aw) (stages : LL ah) (groups : LL ak) (pairs : LL ai) (dets : LL aE) (vars : LL aN) (texts : LL ByteArray) (i : Int) : Option (Bool × R9) :=
 if i < 0 then none else ns nodes stmts tnexts stages groups pairs dets vars texts 0
def cY (nodes : LL ae) (stmts : LL ac) (tnexts : LL aw) (stages : LL ah) (groups : LL ak) (pairs : LL ai) (dets : LL aE) (vars : LL aN) (texts : LL ByteArray) (i : Int) : Option (Bool × R9) :=
 if i < (texts.length : Int) then (idx texts i) >>= fun t25 => (idx t25 (w64 ((t25.length : Int) - 2))) >>= fun t31 => (if t31 = (⟨#[114, 111, 111, 109]⟩ : ByteArray) then (idx t25 (w64 ((t25.length : Int) - 1))) >>= fun t39 => (if t39 = (⟨#[114, 111, 111, 109]⟩ : ByteArray) then cY nodes stmts tnexts stages groups pairs dets vars texts (w64 (i + 1)) else some (false, nodes, stmts, tnexts, stages, groups, pairs, dets, vars, texts)) else some (false, nodes, stmts, tnexts, stages, groups, pairs, dets, vars, texts)) else nt nodes stmts tnexts stages groups pairs dets vars texts 0
  partial_fixpoint
def mO (nodes : LL ae) (stmts : LL ac) (tnexts : LL aw) (stages : LL ah) (groups : LL ak) (pairs : LL ai) (dets : LL aE) (vars : LL aN) (texts : LL ByteArray) : Option (Bool × R9) :=
 cY nodes stmts tnexts stages groups pairs dets vars texts 0
def mP (t : ab) : Option Bool :=
 (mF t) >>= fun t13 => (Cq (⟨t13.1, (⟨t13.2.1, t13.2.2.1⟩ : aI), t13.2.2.2.1, t13.2.2.2.2.1, t13.2.2.2.2.2.1, t13.2.2.2.2.2.2.1, t13.2.2.2.2.2.2.2.1, t13.2.2.2.2.2.2.2.2.1⟩ : ab)) >>= fun t16 => (zt t) >>= fun t21 => (if t16.2 = t21.2 then (pS t16.1 t21.1) >>= fun t30 => (if t30 = true then (oI (⟨t13.1, (⟨t13.2.1, t13.2.2.1⟩ : aI), t13.2.2.2.1, t13.2.2.2.2.1, t13.2.2.2.2.2.1, t13.2.2.2.2.2.2.1, t13.2.2.2.2.2.2.2.1, t13.2.2.2.2.2.2.2.2.1⟩ : ab) t) >>= fun t35 => (if t35 = true then (mO t13.2.2.2.2.2.2.2.2.2.1 t13.2.2.2.2.2.2.2.2.2.2.1 t13.2.2.2.2.2.2.2.2.2.2.2.1 t13.2.2.2.2.2.2.2.2.2.2.2.2.1 t13.2.2.2.2.2.2.2.2.2.2.2.2.2.1 t13.2.2.2.2.2.2.2.2.2.2.2.2.2.2.1 t13.2.2.2.2.2.2.2.2.2.2.2.2.2.2.2.1 t13.2.2.2.2.2.2.2.2.2.2.2.2.2.2.2.2.1 t13.2.2.2.2.2.2.2.2.2.2.2.2.2.2.2.2.2) >>= fun t39 => some t39.1 else some false) else some false) else some false)
end Go.Proofs.YtkmbagocakiefaaGreatDoor.Wb
