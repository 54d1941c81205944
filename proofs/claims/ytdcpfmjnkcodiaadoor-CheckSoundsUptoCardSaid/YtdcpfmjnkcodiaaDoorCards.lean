/-
  DERIVED. GIVEN WITH THE SEED: THE CARDS: each row of YtdcpfmjnkcodiaaDoorRows.lean that lists a variable, with what it lists TIED to the program's text (the seventh form; the later family's looks); each row that meets fmt, with fmt's text TOLD by the authors' own Lean function (tested against real Go, not proved from fmt's source: count such statements apart). THE CARD IS WHAT COUNTS. Prove the row's statement (the work); the ties are given (YtdcpfmjnkcodiaaDoorTie.lean); close each card by the builder's one call (the guide's Derived/Test/ToyasCard.lean, 'card_holds'). Laid BY PROGRAM, IN A SANDBOX (cutbox-door.mjs). By AI agents, Wed Nov 11 2026. No macro, syntax, notation, axiom, sorry.
-/
import Derived.Test.YtdcpfmjnkcodiaaDoorRows
import GoSem.ClaimSeven
namespace Go.Proofs.YtdcpfmjnkcodiaaDoor
namespace Rows

/-- THE TIED CARD OF 'junctionlaw3.TreeMeasures'. -/
def treeMeasuresCard : Claim7 := { stood := { row := treeMeasuresRow, standIns := [], harness := (true, "6b0abcd753f0d83bed9724fce64baacebde7df4171da5e610e01502cb812db3b"), looks := true }, kinds := [], alts := [], laidByText := true, laidKinds := [.data], laidTests := true, laidLooks := .later }
def TreeMeasuresCardSaid : Prop := Claim7.holds Tryd.pinned (.plain (OpenSpec.ofChange treeMeasuresSpec)) treeMeasuresCard

/-- THE TIED CARD OF 'junctionlaw11.CodeExprs'. -/
def codeExprsCard : Claim7 := { stood := { row := codeExprsRow, standIns := [], harness := (true, "6b0abcd753f0d83bed9724fce64baacebde7df4171da5e610e01502cb812db3b"), looks := true }, kinds := [], alts := [], laidByText := true, laidKinds := [.data, .data], laidTests := true, laidLooks := .later }
def CodeExprsCardSaid : Prop := Claim7.holds Tryd.pinned (.plain (OpenSpec.ofChange codeExprsSpec)) codeExprsCard

/-- THE TIED CARD OF 'junctionlaw11.CodeBodies'. -/
def codeBodiesCard : Claim7 := { stood := { row := codeBodiesRow, standIns := [], harness := (true, "6b0abcd753f0d83bed9724fce64baacebde7df4171da5e610e01502cb812db3b"), looks := true }, kinds := [], alts := [], laidByText := true, laidKinds := [.data, .data], laidTests := true, laidLooks := .later }
def CodeBodiesCardSaid : Prop := Claim7.holds Tryd.pinned (.plain (OpenSpec.ofChange codeBodiesSpec)) codeBodiesCard

/-- THE TIED CARD OF 'junctionlaw3.TreeForms'. -/
def treeFormsCard : Claim7 := { stood := { row := treeFormsRow, standIns := [], harness := (true, "6b0abcd753f0d83bed9724fce64baacebde7df4171da5e610e01502cb812db3b"), looks := true }, kinds := [], alts := [], laidByText := true, laidKinds := [.data, .data, .data, .data, .data], laidTests := true, laidLooks := .later }
def TreeFormsCardSaid : Prop := Claim7.holds Tryd.pinned (.plain (OpenSpec.ofChange treeFormsSpec)) treeFormsCard

/-- THE TIED CARD OF 'junctionlaw5.CheckTypes'. -/
def checkTypesCard : Claim7 := { stood := { row := checkTypesRow, standIns := [], harness := (true, "6b0abcd753f0d83bed9724fce64baacebde7df4171da5e610e01502cb812db3b"), looks := true }, kinds := [], alts := [], laidByText := true, laidKinds := [.data, .data, .data, .data, .data], laidTests := true, laidLooks := .later }
def CheckTypesCardSaid : Prop := Claim7.holds Tryd.pinned (.plain (OpenSpec.ofChange checkTypesSpec)) checkTypesCard

/-- THE TIED CARD OF 'junctionlaw3.TreeExprs'. -/
def treeExprsCard : Claim7 := { stood := { row := treeExprsRow, standIns := [], harness := (true, "6b0abcd753f0d83bed9724fce64baacebde7df4171da5e610e01502cb812db3b"), looks := true }, kinds := [], alts := [], laidByText := true, laidKinds := [.data, .data, .data, .data], laidTests := true, laidLooks := .later }
def TreeExprsCardSaid : Prop := Claim7.holds Tryd.pinned (.plain (OpenSpec.ofChange treeExprsSpec)) treeExprsCard

/-- THE TIED CARD OF 'junctionlaw5.CheckSounds'. -/
def checkSoundsCard : Claim7 := { stood := { row := checkSoundsRow, standIns := [], harness := (true, "6b0abcd753f0d83bed9724fce64baacebde7df4171da5e610e01502cb812db3b"), looks := true }, kinds := [], alts := [], laidByText := true, laidKinds := [.data, .data, .data, .data, .data], laidTests := true, laidLooks := .later }
def CheckSoundsCardSaid : Prop := Claim7.holds Tryd.pinned (.plain (OpenSpec.ofChange checkSoundsSpec)) checkSoundsCard

/-- THE TIED CARD OF 'junctionlaw3.TreeRoom'. -/
def treeRoomCard : Claim7 := { stood := { row := treeRoomRow, standIns := [], harness := (true, "6b0abcd753f0d83bed9724fce64baacebde7df4171da5e610e01502cb812db3b"), looks := true }, kinds := [], alts := [], laidByText := true, laidKinds := [.data, .data, .data, .data, .data, .data], laidTests := true, laidLooks := .later }
def TreeRoomCardSaid : Prop := Claim7.holds Tryd.pinned (.plain (OpenSpec.ofChange treeRoomSpec)) treeRoomCard

/-- THE TIED CARD OF 'junctionlaw4.PrettyExpr'. -/
def prettyExprCard : Claim7 := { stood := { row := prettyExprRow, standIns := [], harness := (true, "6b0abcd753f0d83bed9724fce64baacebde7df4171da5e610e01502cb812db3b"), looks := true }, kinds := [], alts := [], laidByText := true, laidKinds := [.data, .data, .data, .data, .data, .data, .data, .data], laidTests := true, laidLooks := .later }
def PrettyExprCardSaid : Prop := Claim7.holds Tryd.pinned (.plain (OpenSpec.ofChange prettyExprSpec)) prettyExprCard

/-- THE SECOND FORM's CARD OF 'junctionlaw3.TreeMeasures'. -/
def treeMeasuresUptoCard : Claim7 := { stood := { row := treeMeasuresUptoRow, standIns := [], harness := (true, "6b0abcd753f0d83bed9724fce64baacebde7df4171da5e610e01502cb812db3b"), looks := true }, kinds := [], alts := [], laidByText := true, laidKinds := [.data], laidTests := true, laidLooks := .later }
def TreeMeasuresUptoCardSaid : Prop := Claim7.holds Tryd.pinned (.plain (OpenSpec.upto treeMeasuresSpec)) treeMeasuresUptoCard

/-- THE SECOND FORM's CARD OF 'junctionlaw11.CodeExprs'. -/
def codeExprsUptoCard : Claim7 := { stood := { row := codeExprsUptoRow, standIns := [], harness := (true, "6b0abcd753f0d83bed9724fce64baacebde7df4171da5e610e01502cb812db3b"), looks := true }, kinds := [], alts := [], laidByText := true, laidKinds := [.data, .data], laidTests := true, laidLooks := .later }
def CodeExprsUptoCardSaid : Prop := Claim7.holds Tryd.pinned (.plain (OpenSpec.upto codeExprsSpec)) codeExprsUptoCard

/-- THE SECOND FORM's CARD OF 'junctionlaw11.CodeBodies'. -/
def codeBodiesUptoCard : Claim7 := { stood := { row := codeBodiesUptoRow, standIns := [], harness := (true, "6b0abcd753f0d83bed9724fce64baacebde7df4171da5e610e01502cb812db3b"), looks := true }, kinds := [], alts := [], laidByText := true, laidKinds := [.data, .data], laidTests := true, laidLooks := .later }
def CodeBodiesUptoCardSaid : Prop := Claim7.holds Tryd.pinned (.plain (OpenSpec.upto codeBodiesSpec)) codeBodiesUptoCard

/-- THE SECOND FORM's CARD OF 'junctionlaw3.TreeForms'. -/
def treeFormsUptoCard : Claim7 := { stood := { row := treeFormsUptoRow, standIns := [], harness := (true, "6b0abcd753f0d83bed9724fce64baacebde7df4171da5e610e01502cb812db3b"), looks := true }, kinds := [], alts := [], laidByText := true, laidKinds := [.data, .data, .data, .data, .data], laidTests := true, laidLooks := .later }
def TreeFormsUptoCardSaid : Prop := Claim7.holds Tryd.pinned (.plain (OpenSpec.upto treeFormsSpec)) treeFormsUptoCard

/-- THE SECOND FORM's CARD OF 'junctionlaw5.CheckTypes'. -/
def checkTypesUptoCard : Claim7 := { stood := { row := checkTypesUptoRow, standIns := [], harness := (true, "6b0abcd753f0d83bed9724fce64baacebde7df4171da5e610e01502cb812db3b"), looks := true }, kinds := [], alts := [], laidByText := true, laidKinds := [.data, .data, .data, .data, .data], laidTests := true, laidLooks := .later }
def CheckTypesUptoCardSaid : Prop := Claim7.holds Tryd.pinned (.plain (OpenSpec.upto checkTypesSpec)) checkTypesUptoCard

/-- THE SECOND FORM's CARD OF 'junctionlaw3.TreeExprs'. -/
def treeExprsUptoCard : Claim7 := { stood := { row := treeExprsUptoRow, standIns := [], harness := (true, "6b0abcd753f0d83bed9724fce64baacebde7df4171da5e610e01502cb812db3b"), looks := true }, kinds := [], alts := [], laidByText := true, laidKinds := [.data, .data, .data, .data], laidTests := true, laidLooks := .later }
def TreeExprsUptoCardSaid : Prop := Claim7.holds Tryd.pinned (.plain (OpenSpec.upto treeExprsSpec)) treeExprsUptoCard

/-- THE SECOND FORM's CARD OF 'junctionlaw5.CheckSounds'. -/
def checkSoundsUptoCard : Claim7 := { stood := { row := checkSoundsUptoRow, standIns := [], harness := (true, "6b0abcd753f0d83bed9724fce64baacebde7df4171da5e610e01502cb812db3b"), looks := true }, kinds := [], alts := [], laidByText := true, laidKinds := [.data, .data, .data, .data, .data], laidTests := true, laidLooks := .later }
def CheckSoundsUptoCardSaid : Prop := Claim7.holds Tryd.pinned (.plain (OpenSpec.upto checkSoundsSpec)) checkSoundsUptoCard

/-- THE SECOND FORM's CARD OF 'junctionlaw3.TreeRoom'. -/
def treeRoomUptoCard : Claim7 := { stood := { row := treeRoomUptoRow, standIns := [], harness := (true, "6b0abcd753f0d83bed9724fce64baacebde7df4171da5e610e01502cb812db3b"), looks := true }, kinds := [], alts := [], laidByText := true, laidKinds := [.data, .data, .data, .data, .data, .data], laidTests := true, laidLooks := .later }
def TreeRoomUptoCardSaid : Prop := Claim7.holds Tryd.pinned (.plain (OpenSpec.upto treeRoomSpec)) treeRoomUptoCard

/-- THE SECOND FORM's CARD OF 'junctionlaw4.PrettyExpr'. -/
def prettyExprUptoCard : Claim7 := { stood := { row := prettyExprUptoRow, standIns := [], harness := (true, "6b0abcd753f0d83bed9724fce64baacebde7df4171da5e610e01502cb812db3b"), looks := true }, kinds := [], alts := [], laidByText := true, laidKinds := [.data, .data, .data, .data, .data, .data, .data, .data], laidTests := true, laidLooks := .later }
def PrettyExprUptoCardSaid : Prop := Claim7.holds Tryd.pinned (.plain (OpenSpec.upto prettyExprSpec)) prettyExprUptoCard
end Rows
end Go.Proofs.YtdcpfmjnkcodiaaDoor
