/- The closed cells of the row of 'CheckBacks'. -/
import Derived.Test.YtkmbagocakiefaaGreatDoorCards
import Derived.Test.YtkmbagocakiefaaGreatDoorTie
import Derived.JoinedCond
import Derived.KernelRfl
namespace Go.Proofs.YtkmbagocakiefaaGreatDoor.Wb
open Go Go.Proofs
theorem f1 : (Rows.checkBacksUptoRow.recurses == Tryz.pinned.checked.prog.recurses 3) = true := by kernel_rfl
theorem f2 : (Rows.checkBacksUptoRow.unfollowed == Tryz.pinned.checked.prog.unfollowed 3) = true := by kernel_rfl
theorem f3 : (Rows.checkBacksUptoRow.inPlace == Tryz.pinned.checked.prog.inPlace 3) = true := by kernel_rfl
theorem f4 : (Rows.checkBacksUptoRow.named == Tryz.pinned.checked.prog.varsNamed 3) = true := by kernel_rfl
theorem closed : joinedFacts Tryz.pinned.checked.prog 3 Tryz.f3 (Rows.OpenSpec.upto Rows.checkBacksSpec).bare Rows.checkBacksUptoRow = true := by
 simp only [joinedFacts]
 rw [f1, f2, f3, f4]
 kernel_rfl
end Go.Proofs.YtkmbagocakiefaaGreatDoor.Wb
