/-
  DERIVED. GIVEN WITH THE SEED: THE CARDS: each row of YtkmbagocakiefaaGreatDoorRows.lean that lists a variable, with what it lists TIED to the program's text (the seventh form; the later family's looks); each row that meets fmt, with fmt's text TOLD by the authors' own Lean function (tested against real Go, not proved from fmt's source: count such statements apart). THE CARD IS WHAT COUNTS. Prove the row's statement (the work); the ties are given (YtkmbagocakiefaaGreatDoorTie.lean); close each card by the builder's one call (the guide's Derived/Test/ToyasCard.lean, 'card_holds'). Laid BY PROGRAM, IN A SANDBOX (cutbox-door.mjs). By AI agents, Wed Nov 11 2026. No macro, syntax, notation, axiom, sorry.
-/
import Derived.Test.YtkmbagocakiefaaGreatDoorRows
import GoSem.ClaimSeven
namespace Go.Proofs.YtkmbagocakiefaaGreatDoor
namespace Rows

/-- THE TIED CARD OF 'junctionlaw5.CheckBacks'. -/
def checkBacksCard : Claim7 := { stood := { row := checkBacksRow, standIns := [], harness := (true, "ea916a3a10fd12efe073b403f29c23406a86bf78dbb55e0d7aab7b72ba099dd5"), looks := false }, kinds := [], alts := [], laidByText := true, laidKinds := [.data, .data, .data, .data, .data], laidTests := true, laidLooks := .later }
def CheckBacksCardSaid : Prop := Claim7.holds Tryz.pinned (.plain (OpenSpec.ofChange checkBacksSpec)) checkBacksCard

/-- THE SECOND FORM's CARD OF 'junctionlaw5.CheckBacks'. -/
def checkBacksUptoCard : Claim7 := { stood := { row := checkBacksUptoRow, standIns := [], harness := (true, "ea916a3a10fd12efe073b403f29c23406a86bf78dbb55e0d7aab7b72ba099dd5"), looks := false }, kinds := [], alts := [], laidByText := true, laidKinds := [.data, .data, .data, .data, .data], laidTests := true, laidLooks := .later }
def CheckBacksUptoCardSaid : Prop := Claim7.holds Tryz.pinned (.plain (OpenSpec.upto checkBacksSpec)) checkBacksUptoCard
end Rows
end Go.Proofs.YtkmbagocakiefaaGreatDoor
