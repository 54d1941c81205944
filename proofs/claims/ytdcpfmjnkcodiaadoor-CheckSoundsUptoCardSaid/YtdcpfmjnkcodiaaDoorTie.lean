/-
  DERIVED. GIVEN WITH THE SEED: THE PROGRAM's TIES (one call each: nine closed facts by the kernel) AND EACH ROW's TIE, after the 31st guide's Derived/Test/Toyas{Tie, Card}.lean. No idea stands in it: it is a product of the set-up. Laid BY PROGRAM, IN A SANDBOX (cutbox-door.mjs). By AI agents, Wed Nov 11 2026. No macro, syntax, notation, axiom, sorry.
-/
import Derived.Test.YtdcpfmjnkcodiaaDoorRows
import Derived.LaidByTextLater
import Derived.SevenTiedAt
import Derived.LaidSub
import Derived.LaidOnce
namespace Go.Proofs.YtdcpfmjnkcodiaaDoor
open Go
set_option maxRecDepth 100000
theorem seatTie1 : Tryd.prog.laidByTextLater [("junction/junctionref2.words", Rows.laid_junction_junctionref2_words), ("junction/junctionref2.signs", Rows.laid_junction_junctionref2_signs), ("junction/arith.operands", Rows.laid_junction_arith_operands), ("junction/lex.words", Rows.laid_junction_lex_words), ("junction/lex.signs", Rows.laid_junction_lex_signs), ("junction/junctionlaw3.leafNames", Rows.laid_junction_junctionlaw3_leafNames), ("junction/junctionlaw3.unaries", Rows.laid_junction_junctionlaw3_unaries), ("junction/junctionlaw3.binaries", Rows.laid_junction_junctionlaw3_binaries), ("junction/code.loads", Rows.laid_junction_code_loads)] [.data, .data, .data, .data, .data, .data, .data, .data, .data] true :=
  Program.laidByTextLater_by_one 69 8 65 (by kernel_rfl) (by kernel_rfl) (by kernel_rfl) (by kernel_rfl) (by kernel_rfl) (by kernel_rfl) (fun _ _ => by kernel_rfl)
theorem seatTie2 : Tryd.prog.laidByTextLater [("junction/junctionref2.words", Rows.laid_junction_junctionref2_words), ("junction/junctionref2.signs", Rows.laid_junction_junctionref2_signs), ("math/bits.deBruijn32tab", Rows.laid_math_bits_deBruijn32tab), ("math/bits.deBruijn64tab", Rows.laid_math_bits_deBruijn64tab), ("internal/strconv.uint64pow10", Rows.laid_internal_strconv_uint64pow10), ("junction/arith.operands", Rows.laid_junction_arith_operands), ("junction/lex.words", Rows.laid_junction_lex_words), ("junction/lex.signs", Rows.laid_junction_lex_signs)] [.data, .data, .data, .data, .data, .data, .data, .data] true :=
  Program.laidByTextLater_by_one 69 8 65 (by kernel_rfl) (by kernel_rfl) (by kernel_rfl) (by kernel_rfl) (by kernel_rfl) (by kernel_rfl) (fun _ _ => by kernel_rfl)
theorem noOwnUnsafe : Tryd.pinned.checked.prog.headLifts.contains "ownunsafe" = false := by kernel_rfl
theorem tie : Tryd.prog.laidByTextLater [("junction/arith.operands", Rows.laid_junction_arith_operands)] [.data] true :=
  Program.laidByTextLater.sub seatTie1 ["junction/arith.operands"] (by kernel_rfl) (by kernel_rfl)
theorem treeMeasures_row_tie : Rows.treeMeasuresRow.laidByTextAt .later Tryd.pinned [.data] true :=
  OpenClaim.laidByTextAt_later rfl rfl tie noOwnUnsafe
theorem tie2 : Tryd.prog.laidByTextLater [("junction/arith.operands", Rows.laid_junction_arith_operands), ("junction/code.loads", Rows.laid_junction_code_loads)] [.data, .data] true :=
  Program.laidByTextLater.sub seatTie1 ["junction/arith.operands", "junction/code.loads"] (by kernel_rfl) (by kernel_rfl)
theorem codeExprs_row_tie : Rows.codeExprsRow.laidByTextAt .later Tryd.pinned [.data, .data] true :=
  OpenClaim.laidByTextAt_later rfl rfl tie2 noOwnUnsafe
theorem codeBodies_row_tie : Rows.codeBodiesRow.laidByTextAt .later Tryd.pinned [.data, .data] true :=
  OpenClaim.laidByTextAt_later rfl rfl tie2 noOwnUnsafe
theorem tie3 : Tryd.prog.laidByTextLater [("junction/junctionref2.words", Rows.laid_junction_junctionref2_words), ("junction/junctionref2.signs", Rows.laid_junction_junctionref2_signs), ("junction/arith.operands", Rows.laid_junction_arith_operands), ("junction/lex.words", Rows.laid_junction_lex_words), ("junction/lex.signs", Rows.laid_junction_lex_signs)] [.data, .data, .data, .data, .data] true :=
  Program.laidByTextLater.sub seatTie1 ["junction/junctionref2.words", "junction/junctionref2.signs", "junction/arith.operands", "junction/lex.words", "junction/lex.signs"] (by kernel_rfl) (by kernel_rfl)
theorem treeForms_row_tie : Rows.treeFormsRow.laidByTextAt .later Tryd.pinned [.data, .data, .data, .data, .data] true :=
  OpenClaim.laidByTextAt_later rfl rfl tie3 noOwnUnsafe
theorem checkTypes_row_tie : Rows.checkTypesRow.laidByTextAt .later Tryd.pinned [.data, .data, .data, .data, .data] true :=
  OpenClaim.laidByTextAt_later rfl rfl tie3 noOwnUnsafe
theorem checkSounds_row_tie : Rows.checkSoundsRow.laidByTextAt .later Tryd.pinned [.data, .data, .data, .data, .data] true :=
  OpenClaim.laidByTextAt_later rfl rfl tie3 noOwnUnsafe
theorem tie4 : Tryd.prog.laidByTextLater [("junction/junctionref2.words", Rows.laid_junction_junctionref2_words), ("junction/junctionref2.signs", Rows.laid_junction_junctionref2_signs), ("junction/lex.words", Rows.laid_junction_lex_words), ("junction/lex.signs", Rows.laid_junction_lex_signs)] [.data, .data, .data, .data] true :=
  Program.laidByTextLater.sub seatTie1 ["junction/junctionref2.words", "junction/junctionref2.signs", "junction/lex.words", "junction/lex.signs"] (by kernel_rfl) (by kernel_rfl)
theorem treeExprs_row_tie : Rows.treeExprsRow.laidByTextAt .later Tryd.pinned [.data, .data, .data, .data] true :=
  OpenClaim.laidByTextAt_later rfl rfl tie4 noOwnUnsafe
theorem tie5 : Tryd.prog.laidByTextLater [("junction/arith.operands", Rows.laid_junction_arith_operands), ("junction/lex.words", Rows.laid_junction_lex_words), ("junction/lex.signs", Rows.laid_junction_lex_signs), ("junction/junctionlaw3.leafNames", Rows.laid_junction_junctionlaw3_leafNames), ("junction/junctionlaw3.unaries", Rows.laid_junction_junctionlaw3_unaries), ("junction/junctionlaw3.binaries", Rows.laid_junction_junctionlaw3_binaries)] [.data, .data, .data, .data, .data, .data] true :=
  Program.laidByTextLater.sub seatTie1 ["junction/arith.operands", "junction/lex.words", "junction/lex.signs", "junction/junctionlaw3.leafNames", "junction/junctionlaw3.unaries", "junction/junctionlaw3.binaries"] (by kernel_rfl) (by kernel_rfl)
theorem treeRoom_row_tie : Rows.treeRoomRow.laidByTextAt .later Tryd.pinned [.data, .data, .data, .data, .data, .data] true :=
  OpenClaim.laidByTextAt_later rfl rfl tie5 noOwnUnsafe
theorem tie6 : Tryd.prog.laidByTextLater [("junction/junctionref2.words", Rows.laid_junction_junctionref2_words), ("junction/junctionref2.signs", Rows.laid_junction_junctionref2_signs), ("math/bits.deBruijn32tab", Rows.laid_math_bits_deBruijn32tab), ("math/bits.deBruijn64tab", Rows.laid_math_bits_deBruijn64tab), ("internal/strconv.uint64pow10", Rows.laid_internal_strconv_uint64pow10), ("junction/arith.operands", Rows.laid_junction_arith_operands), ("junction/lex.words", Rows.laid_junction_lex_words), ("junction/lex.signs", Rows.laid_junction_lex_signs)] [.data, .data, .data, .data, .data, .data, .data, .data] true :=
  Program.laidByTextLater.sub seatTie2 ["junction/junctionref2.words", "junction/junctionref2.signs", "math/bits.deBruijn32tab", "math/bits.deBruijn64tab", "internal/strconv.uint64pow10", "junction/arith.operands", "junction/lex.words", "junction/lex.signs"] (by kernel_rfl) (by kernel_rfl)
theorem prettyExpr_row_tie : Rows.prettyExprRow.laidByTextAt .later Tryd.pinned [.data, .data, .data, .data, .data, .data, .data, .data] true :=
  OpenClaim.laidByTextAt_later rfl rfl tie6 noOwnUnsafe
theorem treeMeasuresUpto_row_tie : Rows.treeMeasuresUptoRow.laidByTextAt .later Tryd.pinned [.data] true :=
  OpenClaim.laidByTextAt_later rfl rfl tie noOwnUnsafe
theorem codeExprsUpto_row_tie : Rows.codeExprsUptoRow.laidByTextAt .later Tryd.pinned [.data, .data] true :=
  OpenClaim.laidByTextAt_later rfl rfl tie2 noOwnUnsafe
theorem codeBodiesUpto_row_tie : Rows.codeBodiesUptoRow.laidByTextAt .later Tryd.pinned [.data, .data] true :=
  OpenClaim.laidByTextAt_later rfl rfl tie2 noOwnUnsafe
theorem treeFormsUpto_row_tie : Rows.treeFormsUptoRow.laidByTextAt .later Tryd.pinned [.data, .data, .data, .data, .data] true :=
  OpenClaim.laidByTextAt_later rfl rfl tie3 noOwnUnsafe
theorem checkTypesUpto_row_tie : Rows.checkTypesUptoRow.laidByTextAt .later Tryd.pinned [.data, .data, .data, .data, .data] true :=
  OpenClaim.laidByTextAt_later rfl rfl tie3 noOwnUnsafe
theorem treeExprsUpto_row_tie : Rows.treeExprsUptoRow.laidByTextAt .later Tryd.pinned [.data, .data, .data, .data] true :=
  OpenClaim.laidByTextAt_later rfl rfl tie4 noOwnUnsafe
theorem checkSoundsUpto_row_tie : Rows.checkSoundsUptoRow.laidByTextAt .later Tryd.pinned [.data, .data, .data, .data, .data] true :=
  OpenClaim.laidByTextAt_later rfl rfl tie3 noOwnUnsafe
theorem treeRoomUpto_row_tie : Rows.treeRoomUptoRow.laidByTextAt .later Tryd.pinned [.data, .data, .data, .data, .data, .data] true :=
  OpenClaim.laidByTextAt_later rfl rfl tie5 noOwnUnsafe
theorem prettyExprUpto_row_tie : Rows.prettyExprUptoRow.laidByTextAt .later Tryd.pinned [.data, .data, .data, .data, .data, .data, .data, .data] true :=
  OpenClaim.laidByTextAt_later rfl rfl tie6 noOwnUnsafe
end Go.Proofs.YtdcpfmjnkcodiaaDoor
