/-
  NARROWER THAN 'FOR EVERY INPUT', by the rows' own cells (each row's printed sentence says how): TreeMeasures: laid · CodeExprs: laid · CodeBodies: laid · TreeForms: laid · CheckTypes: laid · TreeExprs: laid · CheckSounds: laid · TreeRoom: laid · PrettyExpr: laid.
  DERIVED. THE GIVEN ROWS OF THIS SEAT. 9 by the template 'for every input the law returns true; each argument reads behind the call as it read before'; 0 by the template 'total and deterministic' (their statements: YtdcpfmjnkcodiaaDoorTotals.lean).
  GIVEN WITH THE SEED: the statements are not yours to turn. If you find one false, say at which input.
  Laid BY PROGRAM, IN A SANDBOX (cutbox-rows.mjs): the forced cells as the released guide's own fill.sh prints them over the translation 11e3f9fcdd364ea8… (all of the seat's roots in one cut). By AI agents, Wed Nov 11 2026. No macro, syntax, notation, axiom, sorry.
-/
import Derived.Test.YtdcpfmjnkcodiaaDoorChecked
import GoSem.Claim
import GoSem.ClaimJoined
import GoSem.ClaimMapViews
import Derived.JoinedTies
import Derived.KernelRfl
namespace Go.Proofs.YtdcpfmjnkcodiaaDoor
/- THE CELL 'sum', in the pinned program and in every row, IS THE sha256 OF THE DUMP (.gsa) THAT YtdcpfmjnkcodiaaDoorProg.lean LOADS. Nothing in Lean hashes anything: it is a label: what it is worth is what the hold of that sum in a sandbox is worth. -/
noncomputable def Tryd.pinned : Pinned := { name := "ytdcpfmjnkcodiaadoor", sum := "11e3f9fcdd364ea82485b253e7b35328f604a5ec6f8a1697397367c3b217b9ca", checked := Tryd.checked }
namespace Rows
def none {H : Type} : Left H := { results := [], args := [] }

/- WHAT THE LISTED PACKAGE-LEVEL VARIABLES READ AS WHEN THE CALL BEGINS. Each datum BY PROGRAM (the guide's laid-datum.mjs) off the statement by which the dump's own 'gosem.cut.vars' lays the variable. In a bare row this is a premise. The card (YtdcpfmjnkcodiaaDoorCards.lean) ties it to the program's text. -/
def laid_junction_arith_operands {H : Type} : DataW H := .agg [.lit (.int .i64 0), .lit (.int .i64 0), .lit (.int .i64 0), .lit (.int .i64 0), .lit (.int .i64 0), .lit (.int .i64 0), .lit (.int .i64 0), .lit (.int .i64 0), .lit (.int .i64 0), .lit (.int .i64 0), .lit (.int .i64 0), .lit (.int .i64 0), .lit (.int .i64 0), .lit (.int .i64 0), .lit (.int .i64 0), .lit (.int .i64 0), .lit (.int .i64 0), .lit (.int .i64 0), .lit (.int .i64 0), .lit (.int .i64 0), .lit (.int .i64 1), .lit (.int .i64 1), .lit (.int .i64 1), .lit (.int .i64 0), .lit (.int .i64 0), .lit (.int .i64 0), .lit (.int .i64 0), .lit (.int .i64 0), .lit (.int .i64 0), .lit (.int .i64 0), .lit (.int .i64 2), .lit (.int .i64 2), .lit (.int .i64 2), .lit (.int .i64 2), .lit (.int .i64 2), .lit (.int .i64 2), .lit (.int .i64 2), .lit (.int .i64 0), .lit (.int .i64 0), .lit (.int .i64 0), .lit (.int .i64 2), .lit (.int .i64 2), .lit (.int .i64 2), .lit (.int .i64 2), .lit (.int .i64 2), .lit (.int .i64 2), .lit (.int .i64 0), .lit (.int .i64 0), .lit (.int .i64 0), .lit (.int .i64 0), .lit (.int .i64 2), .lit (.int .i64 2)]
def laid_junction_code_loads {H : Type} : DataW H := .agg [.lit (.int .i64 0), .lit (.int .i64 0), .lit (.int .i64 0), .lit (.int .i64 0), .lit (.int .i64 132), .lit (.int .i64 137), .lit (.int .i64 138), .lit (.int .i64 133), .lit (.int .i64 134), .lit (.int .i64 135), .lit (.int .i64 136)]
def laid_junction_junctionref2_words {H : Type} : DataW H := .agg [.lit (.string [112, 108, 97, 110]), .lit (.string [99, 111, 110, 115, 116]), .lit (.string [103, 114, 111, 117, 112]), .lit (.string [118, 101, 104, 105, 99, 108, 101]), .lit (.string [112, 101, 100, 101, 115, 116, 114, 105, 97, 110]), .lit (.string [109, 105, 110]), .lit (.string [97, 109, 98, 101, 114]), .lit (.string [108, 101, 97, 100]), .lit (.string [99, 111, 110, 102, 108, 105, 99, 116]), .lit (.string [100, 101, 116, 101, 99, 116, 111, 114]), .lit (.string [108, 97, 116, 99, 104]), .lit (.string [100, 101, 108, 97, 121]), .lit (.string [104, 111, 108, 100]), .lit (.string [116, 105, 109, 101, 114]), .lit (.string [99, 111, 117, 110, 116, 101, 114]), .lit (.string [118, 97, 114]), .lit (.string [99, 111, 110, 100]), .lit (.string [115, 116, 97, 114, 116]), .lit (.string [115, 116, 97, 103, 101]), .lit (.string [103, 114, 101, 101, 110]), .lit (.string [101, 110, 116, 101, 114]), .lit (.string [100, 117, 114, 105, 110, 103]), .lit (.string [108, 101, 97, 118, 101]), .lit (.string [110, 101, 120, 116]), .lit (.string [119, 104, 101, 110]), .lit (.string [114, 101, 115, 101, 116]), .lit (.string [114, 117, 110]), .lit (.string [115, 116, 111, 112]), .lit (.string [99, 111, 117, 110, 116]), .lit (.string [99, 108, 101, 97, 114]), .lit (.string [105, 102]), .lit (.string [101, 108, 115, 101]), .lit (.string [111, 114]), .lit (.string [97, 110, 100]), .lit (.string [110, 111, 116]), .lit (.string [116, 114, 117, 101]), .lit (.string [102, 97, 108, 115, 101]), .lit (.string [101, 108, 97, 112, 115, 101, 100]), .lit (.string [114, 101, 100]), .lit (.string [109, 97, 120]), .lit (.string [97, 98, 115])]
def laid_junction_junctionref2_signs {H : Type} : DataW H := .agg [.lit (.string [123]), .lit (.string [125]), .lit (.string [40]), .lit (.string [41]), .lit (.string [44]), .lit (.string [59]), .lit (.string [61]), .lit (.string [61, 61]), .lit (.string [33, 61]), .lit (.string [60]), .lit (.string [60, 61]), .lit (.string [62]), .lit (.string [62, 61]), .lit (.string [43]), .lit (.string [45]), .lit (.string [42]), .lit (.string [47]), .lit (.string [37])]
def laid_junction_lex_words {H : Type} : DataW H := .agg [.lit (.string [112, 108, 97, 110]), .lit (.string [99, 111, 110, 115, 116]), .lit (.string [103, 114, 111, 117, 112]), .lit (.string [118, 101, 104, 105, 99, 108, 101]), .lit (.string [112, 101, 100, 101, 115, 116, 114, 105, 97, 110]), .lit (.string [109, 105, 110]), .lit (.string [97, 109, 98, 101, 114]), .lit (.string [108, 101, 97, 100]), .lit (.string [99, 111, 110, 102, 108, 105, 99, 116]), .lit (.string [100, 101, 116, 101, 99, 116, 111, 114]), .lit (.string [108, 97, 116, 99, 104]), .lit (.string [100, 101, 108, 97, 121]), .lit (.string [104, 111, 108, 100]), .lit (.string [116, 105, 109, 101, 114]), .lit (.string [99, 111, 117, 110, 116, 101, 114]), .lit (.string [118, 97, 114]), .lit (.string [99, 111, 110, 100]), .lit (.string [115, 116, 97, 114, 116]), .lit (.string [115, 116, 97, 103, 101]), .lit (.string [103, 114, 101, 101, 110]), .lit (.string [101, 110, 116, 101, 114]), .lit (.string [100, 117, 114, 105, 110, 103]), .lit (.string [108, 101, 97, 118, 101]), .lit (.string [110, 101, 120, 116]), .lit (.string [119, 104, 101, 110]), .lit (.string [114, 101, 115, 101, 116]), .lit (.string [114, 117, 110]), .lit (.string [115, 116, 111, 112]), .lit (.string [99, 111, 117, 110, 116]), .lit (.string [99, 108, 101, 97, 114]), .lit (.string [105, 102]), .lit (.string [101, 108, 115, 101]), .lit (.string [111, 114]), .lit (.string [97, 110, 100]), .lit (.string [110, 111, 116]), .lit (.string [116, 114, 117, 101]), .lit (.string [102, 97, 108, 115, 101]), .lit (.string [101, 108, 97, 112, 115, 101, 100]), .lit (.string [114, 101, 100]), .lit (.string [109, 97, 120]), .lit (.string [97, 98, 115])]
def laid_junction_lex_signs {H : Type} : DataW H := .agg [.lit (.string [123]), .lit (.string [125]), .lit (.string [40]), .lit (.string [41]), .lit (.string [44]), .lit (.string [59]), .lit (.string [61]), .lit (.string [61, 61]), .lit (.string [33, 61]), .lit (.string [60]), .lit (.string [60, 61]), .lit (.string [62]), .lit (.string [62, 61]), .lit (.string [43]), .lit (.string [45]), .lit (.string [42]), .lit (.string [47]), .lit (.string [37])]
def laid_junction_junctionlaw3_leafNames {H : Type} : DataW H := .agg [.lit (.string [97]), .lit (.string [98, 50]), .lit (.string [119, 97, 108, 107]), .lit (.string [122, 95, 122])]
def laid_junction_junctionlaw3_unaries {H : Type} : DataW H := .agg [.lit (.int .i64 20), .lit (.int .i64 21), .lit (.int .i64 22)]
def laid_junction_junctionlaw3_binaries {H : Type} : DataW H := .agg [.lit (.int .i64 30), .lit (.int .i64 31), .lit (.int .i64 32), .lit (.int .i64 33), .lit (.int .i64 34), .lit (.int .i64 35), .lit (.int .i64 36), .lit (.int .i64 40), .lit (.int .i64 41), .lit (.int .i64 42), .lit (.int .i64 43), .lit (.int .i64 44), .lit (.int .i64 45), .lit (.int .i64 50), .lit (.int .i64 51)]
def laid_math_bits_deBruijn32tab {H : Type} : DataW H := .agg [.lit (.int .u8 0), .lit (.int .u8 1), .lit (.int .u8 28), .lit (.int .u8 2), .lit (.int .u8 29), .lit (.int .u8 14), .lit (.int .u8 24), .lit (.int .u8 3), .lit (.int .u8 30), .lit (.int .u8 22), .lit (.int .u8 20), .lit (.int .u8 15), .lit (.int .u8 25), .lit (.int .u8 17), .lit (.int .u8 4), .lit (.int .u8 8), .lit (.int .u8 31), .lit (.int .u8 27), .lit (.int .u8 13), .lit (.int .u8 23), .lit (.int .u8 21), .lit (.int .u8 19), .lit (.int .u8 16), .lit (.int .u8 7), .lit (.int .u8 26), .lit (.int .u8 12), .lit (.int .u8 18), .lit (.int .u8 6), .lit (.int .u8 11), .lit (.int .u8 5), .lit (.int .u8 10), .lit (.int .u8 9)]
def laid_math_bits_deBruijn64tab {H : Type} : DataW H := .agg [.lit (.int .u8 0), .lit (.int .u8 1), .lit (.int .u8 56), .lit (.int .u8 2), .lit (.int .u8 57), .lit (.int .u8 49), .lit (.int .u8 28), .lit (.int .u8 3), .lit (.int .u8 61), .lit (.int .u8 58), .lit (.int .u8 42), .lit (.int .u8 50), .lit (.int .u8 38), .lit (.int .u8 29), .lit (.int .u8 17), .lit (.int .u8 4), .lit (.int .u8 62), .lit (.int .u8 47), .lit (.int .u8 59), .lit (.int .u8 36), .lit (.int .u8 45), .lit (.int .u8 43), .lit (.int .u8 51), .lit (.int .u8 22), .lit (.int .u8 53), .lit (.int .u8 39), .lit (.int .u8 33), .lit (.int .u8 30), .lit (.int .u8 24), .lit (.int .u8 18), .lit (.int .u8 12), .lit (.int .u8 5), .lit (.int .u8 63), .lit (.int .u8 55), .lit (.int .u8 48), .lit (.int .u8 27), .lit (.int .u8 60), .lit (.int .u8 41), .lit (.int .u8 37), .lit (.int .u8 16), .lit (.int .u8 46), .lit (.int .u8 35), .lit (.int .u8 44), .lit (.int .u8 21), .lit (.int .u8 52), .lit (.int .u8 32), .lit (.int .u8 23), .lit (.int .u8 11), .lit (.int .u8 54), .lit (.int .u8 26), .lit (.int .u8 40), .lit (.int .u8 15), .lit (.int .u8 34), .lit (.int .u8 20), .lit (.int .u8 31), .lit (.int .u8 10), .lit (.int .u8 25), .lit (.int .u8 14), .lit (.int .u8 19), .lit (.int .u8 9), .lit (.int .u8 13), .lit (.int .u8 8), .lit (.int .u8 7), .lit (.int .u8 6)]
def laid_internal_strconv_uint64pow10 {H : Type} : DataW H := .agg [.lit (.int .u64 1), .lit (.int .u64 10), .lit (.int .u64 100), .lit (.int .u64 1000), .lit (.int .u64 10000), .lit (.int .u64 100000), .lit (.int .u64 1000000), .lit (.int .u64 10000000), .lit (.int .u64 100000000), .lit (.int .u64 1000000000), .lit (.int .u64 10000000000), .lit (.int .u64 100000000000), .lit (.int .u64 1000000000000), .lit (.int .u64 10000000000000), .lit (.int .u64 100000000000000), .lit (.int .u64 1000000000000000), .lit (.int .u64 10000000000000000), .lit (.int .u64 100000000000000000), .lit (.int .u64 1000000000000000000), .lit (.int .u64 10000000000000000000)]

/-- 'junctionlaw3.TreeMeasures': WHATEVER THE INPUT: true; the input reads as it did. -/
def treeMeasuresSpec : ChangeSpec := { name := "treeMeasures", fn := fun _ => fun
  | [d1, d2] => { results := [.lit (.bool true)], args := [d1, d2] }
  | _ => none }
def treeMeasuresRow : OpenClaim := { program := "ytdcpfmjnkcodiaadoor", sum := "11e3f9fcdd364ea82485b253e7b35328f604a5ec6f8a1697397367c3b217b9ca", func := "junction/junctionlaw3.TreeMeasures", spec := "treeMeasures", named := ["junction/arith.operands"], apart := false, laid := [("junction/arith.operands", laid_junction_arith_operands)] }
def TreeMeasuresSaid : Prop := treeMeasuresRow.holds Tryd.pinned (OpenSpec.ofChange treeMeasuresSpec)

/-- ITS FALSE NEIGHBOUR: 'it returns false'. Refute it at one input. -/
def treeMeasuresWrong : ChangeSpec := { name := "treeMeasures", fn := fun _ => fun
  | [d1, d2] => { results := [.lit (.bool false)], args := [d1, d2] }
  | _ => none }
def TreeMeasuresWrongFalsely : Prop := treeMeasuresRow.holds Tryd.pinned (OpenSpec.ofChange treeMeasuresWrong)

/-- 'junctionlaw11.CodeExprs': WHATEVER THE INPUT: true; the input reads as it did. -/
def codeExprsSpec : ChangeSpec := { name := "codeExprs", fn := fun _ => fun
  | [d1, d2, d3] => { results := [.lit (.bool true)], args := [d1, d2, d3] }
  | _ => none }
def codeExprsRow : OpenClaim := { program := "ytdcpfmjnkcodiaadoor", sum := "11e3f9fcdd364ea82485b253e7b35328f604a5ec6f8a1697397367c3b217b9ca", func := "junction/junctionlaw11.CodeExprs", spec := "codeExprs", unfollowed := true, recurses := true, named := ["junction/arith.operands", "junction/code.loads"], apart := false, laid := [("junction/arith.operands", laid_junction_arith_operands), ("junction/code.loads", laid_junction_code_loads)] }
def CodeExprsSaid : Prop := codeExprsRow.holds Tryd.pinned (OpenSpec.ofChange codeExprsSpec)

/-- ITS FALSE NEIGHBOUR: 'it returns false'. Refute it at one input. -/
def codeExprsWrong : ChangeSpec := { name := "codeExprs", fn := fun _ => fun
  | [d1, d2, d3] => { results := [.lit (.bool false)], args := [d1, d2, d3] }
  | _ => none }
def CodeExprsWrongFalsely : Prop := codeExprsRow.holds Tryd.pinned (OpenSpec.ofChange codeExprsWrong)

/-- 'junctionlaw11.CodeBodies': WHATEVER THE INPUT: true; the input reads as it did. -/
def codeBodiesSpec : ChangeSpec := { name := "codeBodies", fn := fun _ => fun
  | [d1, d2, d3] => { results := [.lit (.bool true)], args := [d1, d2, d3] }
  | _ => none }
def codeBodiesRow : OpenClaim := { program := "ytdcpfmjnkcodiaadoor", sum := "11e3f9fcdd364ea82485b253e7b35328f604a5ec6f8a1697397367c3b217b9ca", func := "junction/junctionlaw11.CodeBodies", spec := "codeBodies", unfollowed := true, recurses := true, named := ["junction/arith.operands", "junction/code.loads"], apart := false, laid := [("junction/arith.operands", laid_junction_arith_operands), ("junction/code.loads", laid_junction_code_loads)] }
def CodeBodiesSaid : Prop := codeBodiesRow.holds Tryd.pinned (OpenSpec.ofChange codeBodiesSpec)

/-- ITS FALSE NEIGHBOUR: 'it returns false'. Refute it at one input. -/
def codeBodiesWrong : ChangeSpec := { name := "codeBodies", fn := fun _ => fun
  | [d1, d2, d3] => { results := [.lit (.bool false)], args := [d1, d2, d3] }
  | _ => none }
def CodeBodiesWrongFalsely : Prop := codeBodiesRow.holds Tryd.pinned (OpenSpec.ofChange codeBodiesWrong)

/-- 'junctionlaw3.TreeForms': WHATEVER THE INPUT: true; the input reads as it did. -/
def treeFormsSpec : ChangeSpec := { name := "treeForms", fn := fun _ => fun
  | [d1, d2] => { results := [.lit (.bool true)], args := [d1, d2] }
  | _ => none }
def treeFormsRow : OpenClaim := { program := "ytdcpfmjnkcodiaadoor", sum := "11e3f9fcdd364ea82485b253e7b35328f604a5ec6f8a1697397367c3b217b9ca", func := "junction/junctionlaw3.TreeForms", spec := "treeForms", inPlace := ["internal/bytealg.IndexByteString", "internal/bytealg.IndexString"], named := ["junction/lex.words", "junction/lex.signs", "internal/bytealg.MaxLen", "junction/arith.operands", "junction/junctionref2.words", "junction/junctionref2.signs"], apart := false, laid := [("junction/junctionref2.words", laid_junction_junctionref2_words), ("junction/junctionref2.signs", laid_junction_junctionref2_signs), ("junction/arith.operands", laid_junction_arith_operands), ("junction/lex.words", laid_junction_lex_words), ("junction/lex.signs", laid_junction_lex_signs)] }
def TreeFormsSaid : Prop := treeFormsRow.holds Tryd.pinned (OpenSpec.ofChange treeFormsSpec)

/-- ITS FALSE NEIGHBOUR: 'it returns false'. Refute it at one input. -/
def treeFormsWrong : ChangeSpec := { name := "treeForms", fn := fun _ => fun
  | [d1, d2] => { results := [.lit (.bool false)], args := [d1, d2] }
  | _ => none }
def TreeFormsWrongFalsely : Prop := treeFormsRow.holds Tryd.pinned (OpenSpec.ofChange treeFormsWrong)

/-- 'junctionlaw5.CheckTypes': WHATEVER THE INPUT: true; the input reads as it did. -/
def checkTypesSpec : ChangeSpec := { name := "checkTypes", fn := fun _ => fun
  | [d1, d2] => { results := [.lit (.bool true)], args := [d1, d2] }
  | _ => none }
def checkTypesRow : OpenClaim := { program := "ytdcpfmjnkcodiaadoor", sum := "11e3f9fcdd364ea82485b253e7b35328f604a5ec6f8a1697397367c3b217b9ca", func := "junction/junctionlaw5.CheckTypes", spec := "checkTypes", inPlace := ["internal/bytealg.IndexByteString", "internal/bytealg.IndexString"], unfollowed := true, recurses := true, named := ["junction/arith.operands", "junction/lex.words", "junction/lex.signs", "internal/bytealg.MaxLen", "junction/junctionref2.words", "junction/junctionref2.signs"], apart := false, laid := [("junction/junctionref2.words", laid_junction_junctionref2_words), ("junction/junctionref2.signs", laid_junction_junctionref2_signs), ("junction/arith.operands", laid_junction_arith_operands), ("junction/lex.words", laid_junction_lex_words), ("junction/lex.signs", laid_junction_lex_signs)] }
def CheckTypesSaid : Prop := checkTypesRow.holds Tryd.pinned (OpenSpec.ofChange checkTypesSpec)

/-- ITS FALSE NEIGHBOUR: 'it returns false'. Refute it at one input. -/
def checkTypesWrong : ChangeSpec := { name := "checkTypes", fn := fun _ => fun
  | [d1, d2] => { results := [.lit (.bool false)], args := [d1, d2] }
  | _ => none }
def CheckTypesWrongFalsely : Prop := checkTypesRow.holds Tryd.pinned (OpenSpec.ofChange checkTypesWrong)

/-- 'junctionlaw3.TreeExprs': WHATEVER THE INPUT: true; the input reads as it did. -/
def treeExprsSpec : ChangeSpec := { name := "treeExprs", fn := fun _ => fun
  | [d] => { results := [.lit (.bool true)], args := [d] }
  | _ => none }
def treeExprsRow : OpenClaim := { program := "ytdcpfmjnkcodiaadoor", sum := "11e3f9fcdd364ea82485b253e7b35328f604a5ec6f8a1697397367c3b217b9ca", func := "junction/junctionlaw3.TreeExprs", spec := "treeExprs", inPlace := ["internal/bytealg.IndexByteString", "internal/bytealg.IndexString"], unfollowed := true, recurses := true, named := ["junction/lex.words", "junction/lex.signs", "internal/bytealg.MaxLen", "junction/junctionref2.signs", "junction/junctionref2.words"], apart := false, laid := [("junction/junctionref2.words", laid_junction_junctionref2_words), ("junction/junctionref2.signs", laid_junction_junctionref2_signs), ("junction/lex.words", laid_junction_lex_words), ("junction/lex.signs", laid_junction_lex_signs)] }
def TreeExprsSaid : Prop := treeExprsRow.holds Tryd.pinned (OpenSpec.ofChange treeExprsSpec)

/-- ITS FALSE NEIGHBOUR: 'it returns false'. Refute it at one input. -/
def treeExprsWrong : ChangeSpec := { name := "treeExprs", fn := fun _ => fun
  | [d] => { results := [.lit (.bool false)], args := [d] }
  | _ => none }
def TreeExprsWrongFalsely : Prop := treeExprsRow.holds Tryd.pinned (OpenSpec.ofChange treeExprsWrong)

/-- 'junctionlaw5.CheckSounds': WHATEVER THE INPUT: true; the input reads as it did. -/
def checkSoundsSpec : ChangeSpec := { name := "checkSounds", fn := fun _ => fun
  | [d1, d2, d3] => { results := [.lit (.bool true)], args := [d1, d2, d3] }
  | _ => none }
def checkSoundsRow : OpenClaim := { program := "ytdcpfmjnkcodiaadoor", sum := "11e3f9fcdd364ea82485b253e7b35328f604a5ec6f8a1697397367c3b217b9ca", func := "junction/junctionlaw5.CheckSounds", spec := "checkSounds", inPlace := ["internal/bytealg.IndexByteString", "internal/bytealg.IndexString"], named := ["junction/lex.words", "junction/lex.signs", "internal/bytealg.MaxLen", "junction/arith.operands", "junction/junctionref2.words", "junction/junctionref2.signs"], apart := false, laid := [("junction/junctionref2.words", laid_junction_junctionref2_words), ("junction/junctionref2.signs", laid_junction_junctionref2_signs), ("junction/arith.operands", laid_junction_arith_operands), ("junction/lex.words", laid_junction_lex_words), ("junction/lex.signs", laid_junction_lex_signs)] }
def CheckSoundsSaid : Prop := checkSoundsRow.holds Tryd.pinned (OpenSpec.ofChange checkSoundsSpec)

/-- ITS FALSE NEIGHBOUR: 'it returns false'. Refute it at one input. -/
def checkSoundsWrong : ChangeSpec := { name := "checkSounds", fn := fun _ => fun
  | [d1, d2, d3] => { results := [.lit (.bool false)], args := [d1, d2, d3] }
  | _ => none }
def CheckSoundsWrongFalsely : Prop := checkSoundsRow.holds Tryd.pinned (OpenSpec.ofChange checkSoundsWrong)

/-- 'junctionlaw3.TreeRoom': WHATEVER THE INPUT: true; the input reads as it did. -/
def treeRoomSpec : ChangeSpec := { name := "treeRoom", fn := fun _ => fun
  | [d1, d2] => { results := [.lit (.bool true)], args := [d1, d2] }
  | _ => none }
def treeRoomRow : OpenClaim := { program := "ytdcpfmjnkcodiaadoor", sum := "11e3f9fcdd364ea82485b253e7b35328f604a5ec6f8a1697397367c3b217b9ca", func := "junction/junctionlaw3.TreeRoom", spec := "treeRoom", inPlace := ["internal/bytealg.IndexByteString", "internal/bytealg.IndexString"], unfollowed := true, recurses := true, named := ["junction/junctionlaw3.unaries", "junction/junctionlaw3.binaries", "junction/junctionlaw3.leafNames", "junction/arith.operands", "junction/lex.words", "junction/lex.signs", "internal/bytealg.MaxLen"], apart := false, laid := [("junction/arith.operands", laid_junction_arith_operands), ("junction/lex.words", laid_junction_lex_words), ("junction/lex.signs", laid_junction_lex_signs), ("junction/junctionlaw3.leafNames", laid_junction_junctionlaw3_leafNames), ("junction/junctionlaw3.unaries", laid_junction_junctionlaw3_unaries), ("junction/junctionlaw3.binaries", laid_junction_junctionlaw3_binaries)] }
def TreeRoomSaid : Prop := treeRoomRow.holds Tryd.pinned (OpenSpec.ofChange treeRoomSpec)

/-- ITS FALSE NEIGHBOUR: 'it returns false'. Refute it at one input. -/
def treeRoomWrong : ChangeSpec := { name := "treeRoom", fn := fun _ => fun
  | [d1, d2] => { results := [.lit (.bool false)], args := [d1, d2] }
  | _ => none }
def TreeRoomWrongFalsely : Prop := treeRoomRow.holds Tryd.pinned (OpenSpec.ofChange treeRoomWrong)

/-- 'junctionlaw4.PrettyExpr': WHATEVER THE INPUT: true; the input reads as it did. -/
def prettyExprSpec : ChangeSpec := { name := "prettyExpr", fn := fun _ => fun
  | [d] => { results := [.lit (.bool true)], args := [d] }
  | _ => none }
def prettyExprRow : OpenClaim := { program := "ytdcpfmjnkcodiaadoor", sum := "11e3f9fcdd364ea82485b253e7b35328f604a5ec6f8a1697397367c3b217b9ca", func := "junction/junctionlaw4.PrettyExpr", spec := "prettyExpr", inPlace := ["internal/bytealg.IndexByteString", "internal/bytealg.IndexString"], unfollowed := true, recurses := true, named := ["junction/junctionref2.words", "junction/junctionref2.signs", "junction/arith.operands", "junction/lex.words", "junction/lex.signs", "internal/bytealg.MaxLen", "internal/strconv.uint64pow10", "math/bits.deBruijn32tab", "math/bits.deBruijn64tab"], apart := false, laid := [("junction/junctionref2.words", laid_junction_junctionref2_words), ("junction/junctionref2.signs", laid_junction_junctionref2_signs), ("math/bits.deBruijn32tab", laid_math_bits_deBruijn32tab), ("math/bits.deBruijn64tab", laid_math_bits_deBruijn64tab), ("internal/strconv.uint64pow10", laid_internal_strconv_uint64pow10), ("junction/arith.operands", laid_junction_arith_operands), ("junction/lex.words", laid_junction_lex_words), ("junction/lex.signs", laid_junction_lex_signs)] }
def PrettyExprSaid : Prop := prettyExprRow.holds Tryd.pinned (OpenSpec.ofChange prettyExprSpec)

/-- ITS FALSE NEIGHBOUR: 'it returns false'. Refute it at one input. -/
def prettyExprWrong : ChangeSpec := { name := "prettyExpr", fn := fun _ => fun
  | [d] => { results := [.lit (.bool false)], args := [d] }
  | _ => none }
def PrettyExprWrongFalsely : Prop := prettyExprRow.holds Tryd.pinned (OpenSpec.ofChange prettyExprWrong)

/- THE SECOND FORM. 'bulk': how many values and letters a reading holds, each counted each time it is reached (what is shared counts as often as it is met; a slice's spare places count too). A statement '..UptoSaid' is the law's where the arguments, and the package variables that the reading takes, are together of bulk at most 1048576: NARROWER than '..Said'. Prove '..Said' where nothing that the law and all that it calls make is longer than what came in: it says more and counts as full. Else prove '..UptoSaid'. A law counts once. -/
mutual
def uptoBulk {H : Type} : DataW H → Nat
  | .lit (.string bytes) => bytes.length + 1
  | .lit _ => 1
  | .nil => 1
  | .ptr d => uptoBulk d + 1
  | .slice elems spare => uptoBulkAll elems + uptoBulkAll spare + 1
  | .agg parts => uptoBulkAll parts + 1
  | .iface _ d => uptoBulk d + 1
  | .map entries => uptoBulkEntries entries + 1
  | .held _ => 1
def uptoBulkAll {H : Type} : List (DataW H) → Nat
  | [] => 0
  | d :: r => uptoBulk d + uptoBulkAll r
def uptoBulkEntries {H : Type} : List (Lit × DataW H) → Nat
  | [] => 0
  | x :: r => uptoBulkEntry x + uptoBulkEntries r
def uptoBulkEntry {H : Type} : Lit × DataW H → Nat
  | (.string bytes, d) => bytes.length + uptoBulk d + 1
  | (_, d) => uptoBulk d + 1
 end
def uptoSmall : (H : Type) → List (DataW H) → Bool := fun _ ds => decide (uptoBulkAll ds ≤ 1048576)
def OpenSpec.upto (s : _root_.Go.ChangeSpec) : _root_.Go.OpenSpec := { _root_.Go.OpenSpec.ofChange s with cond := some uptoSmall }

/-- 'junctionlaw3.TreeMeasures', WHERE WHAT IT READS IS OF BULK AT MOST 1048576: true; the input reads as it did. -/
def treeMeasuresUptoRow : OpenClaim := { program := "ytdcpfmjnkcodiaadoor", sum := "11e3f9fcdd364ea82485b253e7b35328f604a5ec6f8a1697397367c3b217b9ca", func := "junction/junctionlaw3.TreeMeasures", spec := "treeMeasures", named := ["junction/arith.operands"], apart := false, laid := [("junction/arith.operands", laid_junction_arith_operands)], narrowed := true }
def TreeMeasuresUptoSaid : Prop := treeMeasuresUptoRow.holds Tryd.pinned (OpenSpec.upto treeMeasuresSpec)

/-- 'junctionlaw11.CodeExprs', WHERE WHAT IT READS IS OF BULK AT MOST 1048576: true; the input reads as it did. -/
def codeExprsUptoRow : OpenClaim := { program := "ytdcpfmjnkcodiaadoor", sum := "11e3f9fcdd364ea82485b253e7b35328f604a5ec6f8a1697397367c3b217b9ca", func := "junction/junctionlaw11.CodeExprs", spec := "codeExprs", unfollowed := true, recurses := true, named := ["junction/arith.operands", "junction/code.loads"], apart := false, laid := [("junction/arith.operands", laid_junction_arith_operands), ("junction/code.loads", laid_junction_code_loads)], narrowed := true }
def CodeExprsUptoSaid : Prop := codeExprsUptoRow.holds Tryd.pinned (OpenSpec.upto codeExprsSpec)

/-- 'junctionlaw11.CodeBodies', WHERE WHAT IT READS IS OF BULK AT MOST 1048576: true; the input reads as it did. -/
def codeBodiesUptoRow : OpenClaim := { program := "ytdcpfmjnkcodiaadoor", sum := "11e3f9fcdd364ea82485b253e7b35328f604a5ec6f8a1697397367c3b217b9ca", func := "junction/junctionlaw11.CodeBodies", spec := "codeBodies", unfollowed := true, recurses := true, named := ["junction/arith.operands", "junction/code.loads"], apart := false, laid := [("junction/arith.operands", laid_junction_arith_operands), ("junction/code.loads", laid_junction_code_loads)], narrowed := true }
def CodeBodiesUptoSaid : Prop := codeBodiesUptoRow.holds Tryd.pinned (OpenSpec.upto codeBodiesSpec)

/-- 'junctionlaw3.TreeForms', WHERE WHAT IT READS IS OF BULK AT MOST 1048576: true; the input reads as it did. -/
def treeFormsUptoRow : OpenClaim := { program := "ytdcpfmjnkcodiaadoor", sum := "11e3f9fcdd364ea82485b253e7b35328f604a5ec6f8a1697397367c3b217b9ca", func := "junction/junctionlaw3.TreeForms", spec := "treeForms", inPlace := ["internal/bytealg.IndexByteString", "internal/bytealg.IndexString"], named := ["junction/lex.words", "junction/lex.signs", "internal/bytealg.MaxLen", "junction/arith.operands", "junction/junctionref2.words", "junction/junctionref2.signs"], apart := false, laid := [("junction/junctionref2.words", laid_junction_junctionref2_words), ("junction/junctionref2.signs", laid_junction_junctionref2_signs), ("junction/arith.operands", laid_junction_arith_operands), ("junction/lex.words", laid_junction_lex_words), ("junction/lex.signs", laid_junction_lex_signs)], narrowed := true }
def TreeFormsUptoSaid : Prop := treeFormsUptoRow.holds Tryd.pinned (OpenSpec.upto treeFormsSpec)

/-- 'junctionlaw5.CheckTypes', WHERE WHAT IT READS IS OF BULK AT MOST 1048576: true; the input reads as it did. -/
def checkTypesUptoRow : OpenClaim := { program := "ytdcpfmjnkcodiaadoor", sum := "11e3f9fcdd364ea82485b253e7b35328f604a5ec6f8a1697397367c3b217b9ca", func := "junction/junctionlaw5.CheckTypes", spec := "checkTypes", inPlace := ["internal/bytealg.IndexByteString", "internal/bytealg.IndexString"], unfollowed := true, recurses := true, named := ["junction/arith.operands", "junction/lex.words", "junction/lex.signs", "internal/bytealg.MaxLen", "junction/junctionref2.words", "junction/junctionref2.signs"], apart := false, laid := [("junction/junctionref2.words", laid_junction_junctionref2_words), ("junction/junctionref2.signs", laid_junction_junctionref2_signs), ("junction/arith.operands", laid_junction_arith_operands), ("junction/lex.words", laid_junction_lex_words), ("junction/lex.signs", laid_junction_lex_signs)], narrowed := true }
def CheckTypesUptoSaid : Prop := checkTypesUptoRow.holds Tryd.pinned (OpenSpec.upto checkTypesSpec)

/-- 'junctionlaw3.TreeExprs', WHERE WHAT IT READS IS OF BULK AT MOST 1048576: true; the input reads as it did. -/
def treeExprsUptoRow : OpenClaim := { program := "ytdcpfmjnkcodiaadoor", sum := "11e3f9fcdd364ea82485b253e7b35328f604a5ec6f8a1697397367c3b217b9ca", func := "junction/junctionlaw3.TreeExprs", spec := "treeExprs", inPlace := ["internal/bytealg.IndexByteString", "internal/bytealg.IndexString"], unfollowed := true, recurses := true, named := ["junction/lex.words", "junction/lex.signs", "internal/bytealg.MaxLen", "junction/junctionref2.signs", "junction/junctionref2.words"], apart := false, laid := [("junction/junctionref2.words", laid_junction_junctionref2_words), ("junction/junctionref2.signs", laid_junction_junctionref2_signs), ("junction/lex.words", laid_junction_lex_words), ("junction/lex.signs", laid_junction_lex_signs)], narrowed := true }
def TreeExprsUptoSaid : Prop := treeExprsUptoRow.holds Tryd.pinned (OpenSpec.upto treeExprsSpec)

/-- 'junctionlaw5.CheckSounds', WHERE WHAT IT READS IS OF BULK AT MOST 1048576: true; the input reads as it did. -/
def checkSoundsUptoRow : OpenClaim := { program := "ytdcpfmjnkcodiaadoor", sum := "11e3f9fcdd364ea82485b253e7b35328f604a5ec6f8a1697397367c3b217b9ca", func := "junction/junctionlaw5.CheckSounds", spec := "checkSounds", inPlace := ["internal/bytealg.IndexByteString", "internal/bytealg.IndexString"], named := ["junction/lex.words", "junction/lex.signs", "internal/bytealg.MaxLen", "junction/arith.operands", "junction/junctionref2.words", "junction/junctionref2.signs"], apart := false, laid := [("junction/junctionref2.words", laid_junction_junctionref2_words), ("junction/junctionref2.signs", laid_junction_junctionref2_signs), ("junction/arith.operands", laid_junction_arith_operands), ("junction/lex.words", laid_junction_lex_words), ("junction/lex.signs", laid_junction_lex_signs)], narrowed := true }
def CheckSoundsUptoSaid : Prop := checkSoundsUptoRow.holds Tryd.pinned (OpenSpec.upto checkSoundsSpec)

/-- 'junctionlaw3.TreeRoom', WHERE WHAT IT READS IS OF BULK AT MOST 1048576: true; the input reads as it did. -/
def treeRoomUptoRow : OpenClaim := { program := "ytdcpfmjnkcodiaadoor", sum := "11e3f9fcdd364ea82485b253e7b35328f604a5ec6f8a1697397367c3b217b9ca", func := "junction/junctionlaw3.TreeRoom", spec := "treeRoom", inPlace := ["internal/bytealg.IndexByteString", "internal/bytealg.IndexString"], unfollowed := true, recurses := true, named := ["junction/junctionlaw3.unaries", "junction/junctionlaw3.binaries", "junction/junctionlaw3.leafNames", "junction/arith.operands", "junction/lex.words", "junction/lex.signs", "internal/bytealg.MaxLen"], apart := false, laid := [("junction/arith.operands", laid_junction_arith_operands), ("junction/lex.words", laid_junction_lex_words), ("junction/lex.signs", laid_junction_lex_signs), ("junction/junctionlaw3.leafNames", laid_junction_junctionlaw3_leafNames), ("junction/junctionlaw3.unaries", laid_junction_junctionlaw3_unaries), ("junction/junctionlaw3.binaries", laid_junction_junctionlaw3_binaries)], narrowed := true }
def TreeRoomUptoSaid : Prop := treeRoomUptoRow.holds Tryd.pinned (OpenSpec.upto treeRoomSpec)

/-- 'junctionlaw4.PrettyExpr', WHERE WHAT IT READS IS OF BULK AT MOST 1048576: true; the input reads as it did. -/
def prettyExprUptoRow : OpenClaim := { program := "ytdcpfmjnkcodiaadoor", sum := "11e3f9fcdd364ea82485b253e7b35328f604a5ec6f8a1697397367c3b217b9ca", func := "junction/junctionlaw4.PrettyExpr", spec := "prettyExpr", inPlace := ["internal/bytealg.IndexByteString", "internal/bytealg.IndexString"], unfollowed := true, recurses := true, named := ["junction/junctionref2.words", "junction/junctionref2.signs", "junction/arith.operands", "junction/lex.words", "junction/lex.signs", "internal/bytealg.MaxLen", "internal/strconv.uint64pow10", "math/bits.deBruijn32tab", "math/bits.deBruijn64tab"], apart := false, laid := [("junction/junctionref2.words", laid_junction_junctionref2_words), ("junction/junctionref2.signs", laid_junction_junctionref2_signs), ("math/bits.deBruijn32tab", laid_math_bits_deBruijn32tab), ("math/bits.deBruijn64tab", laid_math_bits_deBruijn64tab), ("internal/strconv.uint64pow10", laid_internal_strconv_uint64pow10), ("junction/arith.operands", laid_junction_arith_operands), ("junction/lex.words", laid_junction_lex_words), ("junction/lex.signs", laid_junction_lex_signs)], narrowed := true }
def PrettyExprUptoSaid : Prop := prettyExprUptoRow.holds Tryd.pinned (OpenSpec.upto prettyExprSpec)

end Rows
end Go.Proofs.YtdcpfmjnkcodiaaDoor
