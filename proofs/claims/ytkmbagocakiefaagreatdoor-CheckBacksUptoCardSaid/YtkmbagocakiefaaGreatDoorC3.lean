/- 'CheckBacks' returns true of every input of bulk at most 1048576, and the input Hd as it did. -/
import Derived.Test.YtkmbagocakiefaaGreatDoorC1
import Derived.Test.YtkmbagocakiefaaGreatDoorC2
import Derived.Test.YtkmbagocakiefaaGreatDoorL8
import Derived.Test.YtkmbagocakiefaaGreatDoorCards
import Derived.Test.YtkmbagocakiefaaGreatDoorTie
import Derived.WalkKit
import Derived.ProofKit
import Derived.OpenShut
import Derived.Deep.DeepHandedRow
import Derived.Lib.LaidTab
import Derived.Laws.Externs
namespace Go.Proofs.YtkmbagocakiefaaGreatDoor.Wb
open Go Go.Jv Go.Proofs
open Go.ChangeShapes Go.WideShapes Go.ChangeAt Go.RowKit
def fill (vs : List Value) : Obj → Obj
 | .cells _ t frozen => .cells vs.toArray t frozen
 | o => o
noncomputable def xB (os : Os) : World :=
 { World.holding Tryz.prog os ⟨#[], #[], []⟩ with heap := ((((((World.holding Tryz.prog os ⟨#[], #[], []⟩).heap.modify 0 (fill (jx.map (Value.string)))).modify 1 (fill (jy.map (Value.string)))).modify 2 (fill (bY.map (Value.string)))).modify 3 (fill (bI.map (Value.string)))).modify 4 (fill (fb.map (Value.int .i64)))) }
def El : Array Value := #[.agg #[.string .empty, .slice none 0 0, .slice none 0 0, .slice none 0 0, .slice none 0 0, .slice none 0 0, .slice none 0 0, .slice none 0 0, .int .i64 0]]
theorem Jm (os : Os) : laidMet Tryz.prog Rows.checkBacksUptoRow.laid ((xB os).forCall (fun _ _ => 0) ⟨#[], El, []⟩).memory :=
 laidMet_of_run' 8 (by kernel_rfl) (by kernel_rfl)
theorem Hd (os : Os) {H : Type} (enc : TypeId × Value → H) : ∃ dc, DataW.whole enc Tryz.prog ((xB os).forCall (fun _ _ => 0) ⟨#[], El, []⟩).memory Tryz.f3.params.toList Rows.checkBacksSpec.vars false El.toList 8 = some ([.agg [.lit (.string []), .agg [.nil, .nil], .nil, .nil, .nil, .nil, .nil, .lit (.int .i64 0)]], [], dc) :=
 ⟨[], by kernel_rfl⟩
set_option maxRecDepth 100000 in
theorem Lk (os : Os) (started : os.Started) (H : Type) (enc : TypeId × Value → H) (F : Stop.Interp) :
  ReturnsInHanded {} Tryz.checked os 3 .any ((Rows.OpenSpec.upto Rows.checkBacksSpec).preRow enc Tryz.prog Tryz.f3 Rows.checkBacksUptoRow.domain false Rows.checkBacksUptoRow.laid) (((Rows.OpenSpec.upto Rows.checkBacksSpec).at F).post enc Tryz.prog Tryz.f3 false true false false) := by
 obtain ⟨dc, hx⟩ := Hd os enc
 refine returnsInHanded_of_row (C := Tryz.checked) (s := Rows.OpenSpec.upto Rows.checkBacksSpec) own started (by kernel_rfl) Tryz.func3
  (witness_row_at (enc := enc) (C := Tryz.checked) false (xB os) El rfl (by kernel_rfl) (by kernel_rfl) (by kernel_rfl)
   (OpenSpec.preRow_of_cond 8 hx (by kernel_rfl) (fun k hk => by cases hk; kernel_rfl) (by kernel_rfl) (Jm os))) ?_
 intro W base args ds gs before hval hW _ hcond hz hL _ _
 exact Jb H enc W base args ds gs before hval hW (hcond _ rfl) hz hL
theorem OZ : Rows.CheckBacksUptoSaid :=
 OpenClaim.holds_of_cond 3 Tryz.f3 rfl rfl rfl rfl rfl rfl rfl ⟨rfl, rfl, rfl, rfl, rfl⟩ rfl rfl rfl rfl rfl (by kernel_rfl) Tryz.func3 closed
  (of_decide_eq_true (by kernel_rfl)) (by unfold Func.isWrapper; first | (rw [if_pos (by decide +kernel)]; kernel_rfl) | (rw [if_neg (by decide +kernel)]; exact ⟨rfl, rfl⟩))
  (fun os started H enc _ F => by rw [OpenClaim.pre_eq_preRow]; exact Lk os started H enc F)
theorem plain (f : FuncId) (fn : Func) (hf : Tryz.pinned.checked.prog.funcNamed "junction/junctionlaw5.CheckBacks" = some f) (hfn : Tryz.pinned.checked.prog.funcs[f]? = some fn) :
  false = Tryz.pinned.checked.prog.looks [] ∧ ∀ (j : Nat) t, fn.params[j]? = some t → Tryz.pinned.checked.prog.wantsStandIn t = false := by
 obtain rfl : f = 3 := Option.some.inj ((show Tryz.prog.funcNamed "junction/junctionlaw5.CheckBacks" = some 3 by kernel_rfl).symm.trans hf) |>.symm
 obtain rfl : fn = Tryz.f3 := (Option.some.inj (Tryz.func3.symm.trans hfn)).symm
 refine ⟨by kernel_rfl, fun j t ht => ?_⟩
 have hall : Tryz.f3.params.toList.all (fun t => !Tryz.pinned.checked.prog.wantsStandIn t) = true := by kernel_rfl
 have := List.all_eq_true.1 hall t (by simpa using Array.mem_of_getElem? ht)
 simpa using this
theorem card : Rows.CheckBacksUptoCardSaid :=
 Claim7.holds_tied_plain_at .later [] _ _ _ _ OZ (fun _ h => by cases h) (by kernel_rfl) (fun _ h => by cases h) checkBacksUpto_row_tie rfl ⟨rfl, rfl⟩ (by kernel_rfl) rfl plain (by kernel_rfl)
#print axioms card
end Go.Proofs.YtkmbagocakiefaaGreatDoor.Wb
