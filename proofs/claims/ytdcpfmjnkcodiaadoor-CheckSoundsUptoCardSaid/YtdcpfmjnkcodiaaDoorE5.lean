/- The closed cells of the row of 'CheckSounds'. -/
import Derived.Test.YtdcpfmjnkcodiaaDoorCards
import Derived.Test.YtdcpfmjnkcodiaaDoorTie
import Derived.JoinedCond
import Derived.KernelRfl
namespace Go.Proofs.YtdcpfmjnkcodiaaDoor.We
open Go Go.Proofs
theorem f1 : (Rows.checkSoundsUptoRow.recurses == Tryd.pinned.checked.prog.recurses 9) = true := by kernel_rfl
theorem f2 : (Rows.checkSoundsUptoRow.unfollowed == Tryd.pinned.checked.prog.unfollowed 9) = true := by kernel_rfl
theorem f3 : (Rows.checkSoundsUptoRow.inPlace == Tryd.pinned.checked.prog.inPlace 9) = true := by kernel_rfl
theorem f4 : (Rows.checkSoundsUptoRow.named == Tryd.pinned.checked.prog.varsNamed 9) = true := by kernel_rfl
theorem closed : joinedFacts Tryd.pinned.checked.prog 9 Tryd.f9 (Rows.OpenSpec.upto Rows.checkSoundsSpec).bare Rows.checkSoundsUptoRow = true := by
 simp only [joinedFacts]
 rw [f1, f2, f3, f4]
 kernel_rfl
end Go.Proofs.YtdcpfmjnkcodiaaDoor.We
