/-
  NARROWER THAN 'FOR EVERY INPUT', by the rows' own cells (each row's printed sentence says how): CheckBacks: laid.
  DERIVED. THE GIVEN ROWS OF THIS SEAT. 1 by the template 'for every input the law returns true; each argument reads behind the call as it read before'; 0 by the template 'total and deterministic' (their statements: YtkmbagocakiefaaGreatDoorTotals.lean).
  GIVEN WITH THE SEED: the statements are not yours to turn. If you find one false, say at which input.
  Laid BY PROGRAM, IN A SANDBOX (cutbox-rows.mjs): the forced cells as the released guide's own fill.sh prints them over the translation 168fc9ac642e9de8… (all of the seat's roots in one cut). By AI agents, Wed Nov 11 2026. No macro, syntax, notation, axiom, sorry.
-/
import Derived.Test.YtkmbagocakiefaaGreatDoorChecked
import GoSem.Claim
import GoSem.ClaimJoined
import GoSem.ClaimMapViews
import Derived.JoinedTies
import Derived.KernelRfl
namespace Go.Proofs.YtkmbagocakiefaaGreatDoor
/- THE CELL 'sum', in the pinned program and in every row, IS THE sha256 OF THE DUMP (.gsa) THAT YtkmbagocakiefaaGreatDoorProg.lean LOADS. Nothing in Lean hashes anything: it is a label: what it is worth is what the hold of that sum in a sandbox is worth. -/
noncomputable def Tryz.pinned : Pinned := { name := "ytkmbagocakiefaagreatdoor", sum := "168fc9ac642e9de8b90436846bfec97fd3fe3072227d5382772c2bca192d9fd6", checked := Tryz.checked }
namespace Rows
def none {H : Type} : Left H := { results := [], args := [] }

/- WHAT THE LISTED PACKAGE-LEVEL VARIABLES READ AS WHEN THE CALL BEGINS. Each datum BY PROGRAM (the guide's laid-datum.mjs) off the statement by which the dump's own 'gosem.cut.vars' lays the variable. In a bare row this is a premise. The card (YtkmbagocakiefaaGreatDoorCards.lean) ties it to the program's text. -/
def laid_junction_junctionref2_words {H : Type} : DataW H := .agg [.lit (.string [112, 108, 97, 110]), .lit (.string [99, 111, 110, 115, 116]), .lit (.string [103, 114, 111, 117, 112]), .lit (.string [118, 101, 104, 105, 99, 108, 101]), .lit (.string [112, 101, 100, 101, 115, 116, 114, 105, 97, 110]), .lit (.string [109, 105, 110]), .lit (.string [97, 109, 98, 101, 114]), .lit (.string [108, 101, 97, 100]), .lit (.string [99, 111, 110, 102, 108, 105, 99, 116]), .lit (.string [100, 101, 116, 101, 99, 116, 111, 114]), .lit (.string [108, 97, 116, 99, 104]), .lit (.string [100, 101, 108, 97, 121]), .lit (.string [104, 111, 108, 100]), .lit (.string [116, 105, 109, 101, 114]), .lit (.string [99, 111, 117, 110, 116, 101, 114]), .lit (.string [118, 97, 114]), .lit (.string [99, 111, 110, 100]), .lit (.string [115, 116, 97, 114, 116]), .lit (.string [115, 116, 97, 103, 101]), .lit (.string [103, 114, 101, 101, 110]), .lit (.string [101, 110, 116, 101, 114]), .lit (.string [100, 117, 114, 105, 110, 103]), .lit (.string [108, 101, 97, 118, 101]), .lit (.string [110, 101, 120, 116]), .lit (.string [119, 104, 101, 110]), .lit (.string [114, 101, 115, 101, 116]), .lit (.string [114, 117, 110]), .lit (.string [115, 116, 111, 112]), .lit (.string [99, 111, 117, 110, 116]), .lit (.string [99, 108, 101, 97, 114]), .lit (.string [105, 102]), .lit (.string [101, 108, 115, 101]), .lit (.string [111, 114]), .lit (.string [97, 110, 100]), .lit (.string [110, 111, 116]), .lit (.string [116, 114, 117, 101]), .lit (.string [102, 97, 108, 115, 101]), .lit (.string [101, 108, 97, 112, 115, 101, 100]), .lit (.string [114, 101, 100]), .lit (.string [109, 97, 120]), .lit (.string [97, 98, 115])]
def laid_junction_junctionref2_signs {H : Type} : DataW H := .agg [.lit (.string [123]), .lit (.string [125]), .lit (.string [40]), .lit (.string [41]), .lit (.string [44]), .lit (.string [59]), .lit (.string [61]), .lit (.string [61, 61]), .lit (.string [33, 61]), .lit (.string [60]), .lit (.string [60, 61]), .lit (.string [62]), .lit (.string [62, 61]), .lit (.string [43]), .lit (.string [45]), .lit (.string [42]), .lit (.string [47]), .lit (.string [37])]
def laid_junction_arith_operands {H : Type} : DataW H := .agg [.lit (.int .i64 0), .lit (.int .i64 0), .lit (.int .i64 0), .lit (.int .i64 0), .lit (.int .i64 0), .lit (.int .i64 0), .lit (.int .i64 0), .lit (.int .i64 0), .lit (.int .i64 0), .lit (.int .i64 0), .lit (.int .i64 0), .lit (.int .i64 0), .lit (.int .i64 0), .lit (.int .i64 0), .lit (.int .i64 0), .lit (.int .i64 0), .lit (.int .i64 0), .lit (.int .i64 0), .lit (.int .i64 0), .lit (.int .i64 0), .lit (.int .i64 1), .lit (.int .i64 1), .lit (.int .i64 1), .lit (.int .i64 0), .lit (.int .i64 0), .lit (.int .i64 0), .lit (.int .i64 0), .lit (.int .i64 0), .lit (.int .i64 0), .lit (.int .i64 0), .lit (.int .i64 2), .lit (.int .i64 2), .lit (.int .i64 2), .lit (.int .i64 2), .lit (.int .i64 2), .lit (.int .i64 2), .lit (.int .i64 2), .lit (.int .i64 0), .lit (.int .i64 0), .lit (.int .i64 0), .lit (.int .i64 2), .lit (.int .i64 2), .lit (.int .i64 2), .lit (.int .i64 2), .lit (.int .i64 2), .lit (.int .i64 2), .lit (.int .i64 0), .lit (.int .i64 0), .lit (.int .i64 0), .lit (.int .i64 0), .lit (.int .i64 2), .lit (.int .i64 2)]
def laid_junction_lex_words {H : Type} : DataW H := .agg [.lit (.string [112, 108, 97, 110]), .lit (.string [99, 111, 110, 115, 116]), .lit (.string [103, 114, 111, 117, 112]), .lit (.string [118, 101, 104, 105, 99, 108, 101]), .lit (.string [112, 101, 100, 101, 115, 116, 114, 105, 97, 110]), .lit (.string [109, 105, 110]), .lit (.string [97, 109, 98, 101, 114]), .lit (.string [108, 101, 97, 100]), .lit (.string [99, 111, 110, 102, 108, 105, 99, 116]), .lit (.string [100, 101, 116, 101, 99, 116, 111, 114]), .lit (.string [108, 97, 116, 99, 104]), .lit (.string [100, 101, 108, 97, 121]), .lit (.string [104, 111, 108, 100]), .lit (.string [116, 105, 109, 101, 114]), .lit (.string [99, 111, 117, 110, 116, 101, 114]), .lit (.string [118, 97, 114]), .lit (.string [99, 111, 110, 100]), .lit (.string [115, 116, 97, 114, 116]), .lit (.string [115, 116, 97, 103, 101]), .lit (.string [103, 114, 101, 101, 110]), .lit (.string [101, 110, 116, 101, 114]), .lit (.string [100, 117, 114, 105, 110, 103]), .lit (.string [108, 101, 97, 118, 101]), .lit (.string [110, 101, 120, 116]), .lit (.string [119, 104, 101, 110]), .lit (.string [114, 101, 115, 101, 116]), .lit (.string [114, 117, 110]), .lit (.string [115, 116, 111, 112]), .lit (.string [99, 111, 117, 110, 116]), .lit (.string [99, 108, 101, 97, 114]), .lit (.string [105, 102]), .lit (.string [101, 108, 115, 101]), .lit (.string [111, 114]), .lit (.string [97, 110, 100]), .lit (.string [110, 111, 116]), .lit (.string [116, 114, 117, 101]), .lit (.string [102, 97, 108, 115, 101]), .lit (.string [101, 108, 97, 112, 115, 101, 100]), .lit (.string [114, 101, 100]), .lit (.string [109, 97, 120]), .lit (.string [97, 98, 115])]
def laid_junction_lex_signs {H : Type} : DataW H := .agg [.lit (.string [123]), .lit (.string [125]), .lit (.string [40]), .lit (.string [41]), .lit (.string [44]), .lit (.string [59]), .lit (.string [61]), .lit (.string [61, 61]), .lit (.string [33, 61]), .lit (.string [60]), .lit (.string [60, 61]), .lit (.string [62]), .lit (.string [62, 61]), .lit (.string [43]), .lit (.string [45]), .lit (.string [42]), .lit (.string [47]), .lit (.string [37])]

/-- 'junctionlaw5.CheckBacks': WHATEVER THE INPUT: true; the input reads as it did. -/
def checkBacksSpec : ChangeSpec := { name := "checkBacks", fn := fun _ => fun
  | [d] => { results := [.lit (.bool true)], args := [d] }
  | _ => none }
def checkBacksRow : OpenClaim := { program := "ytkmbagocakiefaagreatdoor", sum := "168fc9ac642e9de8b90436846bfec97fd3fe3072227d5382772c2bca192d9fd6", func := "junction/junctionlaw5.CheckBacks", spec := "checkBacks", inPlace := ["internal/bytealg.IndexByteString", "internal/bytealg.IndexString"], unfollowed := true, recurses := true, named := ["junction/lex.words", "junction/lex.signs", "internal/bytealg.MaxLen", "junction/arith.operands", "junction/junctionref2.words", "junction/junctionref2.signs"], apart := false, laid := [("junction/junctionref2.words", laid_junction_junctionref2_words), ("junction/junctionref2.signs", laid_junction_junctionref2_signs), ("junction/arith.operands", laid_junction_arith_operands), ("junction/lex.words", laid_junction_lex_words), ("junction/lex.signs", laid_junction_lex_signs)] }
def CheckBacksSaid : Prop := checkBacksRow.holds Tryz.pinned (OpenSpec.ofChange checkBacksSpec)

/-- ITS FALSE NEIGHBOUR: 'it returns false'. Refute it at one input. -/
def checkBacksWrong : ChangeSpec := { name := "checkBacks", fn := fun _ => fun
  | [d] => { results := [.lit (.bool false)], args := [d] }
  | _ => none }
def CheckBacksWrongFalsely : Prop := checkBacksRow.holds Tryz.pinned (OpenSpec.ofChange checkBacksWrong)

/- THE SECOND FORM. 'bulk': how many values and letters a reading holds, each counted each time it is reached (what is shared counts as often as it is met; a slice's spare places count too). A statement '..UptoSaid' is the law's where the arguments, and the package variables that the reading takes, are together of bulk at most 1048576: NARROWER than '..Said'. Prove '..Said' where nothing that the law and all that it calls make is longer than what came in: it says more and counts as full. Else prove '..UptoSaid'. A law counts once. -/
mutual
def uptoBulk {H : Type} : DataW H → Nat
  | .lit (.string bytes) => bytes.length + 1
  | .lit _ => 1
  | .nil => 1
  | .ptr d => uptoBulk d + 1
  | .slice elems spare => uptoBulkAll elems + uptoBulkAll spare + 1
  | .agg parts => uptoBulkAll parts + 1
  | .iface _ d => uptoBulk d + 1
  | .map entries => uptoBulkEntries entries + 1
  | .held _ => 1
def uptoBulkAll {H : Type} : List (DataW H) → Nat
  | [] => 0
  | d :: r => uptoBulk d + uptoBulkAll r
def uptoBulkEntries {H : Type} : List (Lit × DataW H) → Nat
  | [] => 0
  | x :: r => uptoBulkEntry x + uptoBulkEntries r
def uptoBulkEntry {H : Type} : Lit × DataW H → Nat
  | (.string bytes, d) => bytes.length + uptoBulk d + 1
  | (_, d) => uptoBulk d + 1
 end
def uptoSmall : (H : Type) → List (DataW H) → Bool := fun _ ds => decide (uptoBulkAll ds ≤ 1048576)
def OpenSpec.upto (s : _root_.Go.ChangeSpec) : _root_.Go.OpenSpec := { _root_.Go.OpenSpec.ofChange s with cond := some uptoSmall }

/-- 'junctionlaw5.CheckBacks', WHERE WHAT IT READS IS OF BULK AT MOST 1048576: true; the input reads as it did. -/
def checkBacksUptoRow : OpenClaim := { program := "ytkmbagocakiefaagreatdoor", sum := "168fc9ac642e9de8b90436846bfec97fd3fe3072227d5382772c2bca192d9fd6", func := "junction/junctionlaw5.CheckBacks", spec := "checkBacks", inPlace := ["internal/bytealg.IndexByteString", "internal/bytealg.IndexString"], unfollowed := true, recurses := true, named := ["junction/lex.words", "junction/lex.signs", "internal/bytealg.MaxLen", "junction/arith.operands", "junction/junctionref2.words", "junction/junctionref2.signs"], apart := false, laid := [("junction/junctionref2.words", laid_junction_junctionref2_words), ("junction/junctionref2.signs", laid_junction_junctionref2_signs), ("junction/arith.operands", laid_junction_arith_operands), ("junction/lex.words", laid_junction_lex_words), ("junction/lex.signs", laid_junction_lex_signs)], narrowed := true }
def CheckBacksUptoSaid : Prop := checkBacksUptoRow.holds Tryz.pinned (OpenSpec.upto checkBacksSpec)

end Rows
end Go.Proofs.YtkmbagocakiefaaGreatDoor
