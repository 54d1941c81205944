/- The program's tables as the walks use them. Printed by decomp.py. -/
import Derived.Test.YtdcpfmjnkcodiaaDoorWaA
import Derived.Test.YtdcpfmjnkcodiaaDoorProg
namespace Go.Proofs.YtdcpfmjnkcodiaaDoor.W
open Go Go.Jv
open Go.Proofs
def sig : FuncId → Sig := fun f => if [65, 13, 67, 66, 14, 68, 15, 69, 70, 71, 16, 17, 3].contains f then .scal else if [64].contains f then .raw else .dat
def glob : Nat → Option (List Dat) := fun g => if g = 2 then some (operandsTab.map (Dat.int .i64)) else none
noncomputable def C : Cfg := cfgOf Tryd.prog glob sig (fun _ _ => none)
theorem ext0 (f : FuncId) (xs : List Dat) : C.ext f xs = none := rfl
theorem arr120 : arrT C 120 = some (2, 3) := by kernel_rfl
theorem arr225 : arrT C 225 = some (52, 3) := by kernel_rfl
theorem bytes115 : (C.ty 115).map (·.bytes) = some 48 := by kernel_rfl
theorem bytes119 : (C.ty 119).map (·.bytes) = some 16 := by kernel_rfl
theorem bytes3 : (C.ty 3).map (·.bytes) = some 8 := by kernel_rfl
theorem elem117 : elemT C 117 = some 119 := by kernel_rfl
theorem elem122 : elemT C 122 = some 3 := by kernel_rfl
theorem elem22 : elemT C 22 = some 115 := by kernel_rfl
theorem eqs115 : C.eqs 115 = some [1, 1, 2, 1, 1] := by kernel_rfl
theorem fn12 : C.fn 12 = some Tryd.f12 := by kernel_rfl
theorem fn13 : C.fn 13 = some Tryd.f13 := by kernel_rfl
theorem fn14 : C.fn 14 = some Tryd.f14 := by kernel_rfl
theorem fn15 : C.fn 15 = some Tryd.f15 := by kernel_rfl
theorem fn16 : C.fn 16 = some Tryd.f16 := by kernel_rfl
theorem fn17 : C.fn 17 = some Tryd.f17 := by kernel_rfl
theorem fn3 : C.fn 3 = some Tryd.f3 := by kernel_rfl
theorem fn64 : C.fn 64 = some Tryd.f64 := by kernel_rfl
theorem fn65 : C.fn 65 = some Tryd.f65 := by kernel_rfl
theorem fn66 : C.fn 66 = some Tryd.f66 := by kernel_rfl
theorem fn67 : C.fn 67 = some Tryd.f67 := by kernel_rfl
theorem fn68 : C.fn 68 = some Tryd.f68 := by kernel_rfl
theorem fn69 : C.fn 69 = some Tryd.f69 := by kernel_rfl
theorem fn70 : C.fn 70 = some Tryd.f70 := by kernel_rfl
theorem fn71 : C.fn 71 = some Tryd.f71 := by kernel_rfl
theorem fo115_0 : fo C 115 0 = some (0, 1, false) := by kernel_rfl
theorem fo119_0 : fo C 119 0 = some (0, 1, false) := by kernel_rfl
theorem fo119_1 : fo C 119 1 = some (1, 1, false) := by kernel_rfl
theorem glob2 : C.glob 2 = some (operandsTab.map (Dat.int .i64)) := rfl
theorem isst115 : isStT C 115 = true := by kernel_rfl
theorem nel120 : elemT C 120 = none := by kernel_rfl
theorem nel225 : elemT C 225 = none := by kernel_rfl
theorem places115 : places C 115 = some [(0, 1), (1, 1), (2, 1), (3, 2)] := by kernel_rfl
theorem places119 : places C 119 = some [(0, 1), (1, 1)] := by kernel_rfl
theorem sig12 : C.sig 12 = .dat := rfl
theorem sig13 : C.sig 13 = .scal := rfl
theorem sig14 : C.sig 14 = .scal := rfl
theorem sig15 : C.sig 15 = .scal := rfl
theorem sig16 : C.sig 16 = .scal := rfl
theorem sig17 : C.sig 17 = .scal := rfl
theorem sig64 : C.sig 64 = .raw := rfl
theorem sig65 : C.sig 65 = .scal := rfl
theorem sig66 : C.sig 66 = .scal := rfl
theorem sig67 : C.sig 67 = .scal := rfl
theorem sig68 : C.sig 68 = .scal := rfl
theorem sig69 : C.sig 69 = .scal := rfl
theorem sig70 : C.sig 70 = .scal := rfl
theorem sig71 : C.sig 71 = .scal := rfl
theorem szg115 : szg C 115 = some (5, true) := by kernel_rfl
theorem szg119 : szg C 119 = some (2, true) := by kernel_rfl
theorem szg120 : szg C 120 = some (2, true) := by kernel_rfl
theorem szg3 : szg C 3 = some (1, false) := by kernel_rfl
theorem zd115 : ∃ z, zeroD C 115 = some z ∧ z.cells.length = 5 ∧ (z.cells.map AV.d).all okC = true := ⟨.agg [(.int .i64 0), (.int .i32 0), (.str ⟨#[]⟩), (.int .i64 0), (.int .i64 0)], by kernel_rfl, rfl, rfl⟩
theorem zd119 : ∃ z, zeroD C 119 = some z ∧ z.cells.length = 2 ∧ (z.cells.map AV.d).all okC = true := ⟨.agg [(.int .i64 0), (.int .i64 0)], by kernel_rfl, rfl, rfl⟩
theorem zd3 : ∃ z, zeroD C 3 = some z ∧ z.cells.length = 1 ∧ (z.cells.map AV.d).all okC = true := ⟨(.int .i64 0), by kernel_rfl, rfl, rfl⟩
theorem zero115 : (C.ty 115).map (·.zero) = some [.d (.int .i64 0), .d (.int .i32 0), .d (.str ⟨#[]⟩), .d (.int .i64 0), .d (.int .i64 0)] := by kernel_rfl
theorem zero119 : (C.ty 119).map (·.zero) = some [.d (.int .i64 0), .d (.int .i64 0)] := by kernel_rfl
theorem zero120 : (C.ty 120).map (·.zero) = some [.d (.int .i64 0), .d (.int .i64 0)] := by kernel_rfl
theorem zero3 : (C.ty 3).map (·.zero) = some [.d (.int .i64 0)] := by kernel_rfl
end Go.Proofs.YtdcpfmjnkcodiaaDoor.W
