/-
  DERIVED. GIVEN WITH THE SEED: THE PROGRAM's TIES (one call each: nine closed facts by the kernel) AND EACH ROW's TIE, after the 31st guide's Derived/Test/Toyas{Tie, Card}.lean. No idea stands in it: it is a product of the set-up. Laid BY PROGRAM, IN A SANDBOX (cutbox-door.mjs). By AI agents, Wed Nov 11 2026. No macro, syntax, notation, axiom, sorry.
-/
import Derived.Test.YtkmbagocakiefaaGreatDoorRows
import Derived.LaidByTextLater
import Derived.SevenTiedAt
import Derived.LaidSub
import Derived.LaidOnce
namespace Go.Proofs.YtkmbagocakiefaaGreatDoor
open Go
set_option maxRecDepth 100000
theorem seatTie1 : Tryz.prog.laidByTextLater [("junction/junctionref2.words", Rows.laid_junction_junctionref2_words), ("junction/junctionref2.signs", Rows.laid_junction_junctionref2_signs), ("junction/arith.operands", Rows.laid_junction_arith_operands), ("junction/lex.words", Rows.laid_junction_lex_words), ("junction/lex.signs", Rows.laid_junction_lex_signs)] [.data, .data, .data, .data, .data] true :=
  Program.laidByTextLater_by_one 34 8 53 (by kernel_rfl) (by kernel_rfl) (by kernel_rfl) (by kernel_rfl) (by kernel_rfl) (by kernel_rfl) (fun _ _ => by kernel_rfl)
theorem noOwnUnsafe : Tryz.pinned.checked.prog.headLifts.contains "ownunsafe" = false := by kernel_rfl
theorem tie : Tryz.prog.laidByTextLater [("junction/junctionref2.words", Rows.laid_junction_junctionref2_words), ("junction/junctionref2.signs", Rows.laid_junction_junctionref2_signs), ("junction/arith.operands", Rows.laid_junction_arith_operands), ("junction/lex.words", Rows.laid_junction_lex_words), ("junction/lex.signs", Rows.laid_junction_lex_signs)] [.data, .data, .data, .data, .data] true :=
  Program.laidByTextLater.sub seatTie1 ["junction/junctionref2.words", "junction/junctionref2.signs", "junction/arith.operands", "junction/lex.words", "junction/lex.signs"] (by kernel_rfl) (by kernel_rfl)
theorem checkBacks_row_tie : Rows.checkBacksRow.laidByTextAt .later Tryz.pinned [.data, .data, .data, .data, .data] true :=
  OpenClaim.laidByTextAt_later rfl rfl tie noOwnUnsafe
theorem checkBacksUpto_row_tie : Rows.checkBacksUptoRow.laidByTextAt .later Tryz.pinned [.data, .data, .data, .data, .data] true :=
  OpenClaim.laidByTextAt_later rfl rfl tie noOwnUnsafe
end Go.Proofs.YtkmbagocakiefaaGreatDoor
