/- The program's tables as the walks use them. Printed by decomp.py. -/
import Derived.Test.YtdcpfmjnkcodiaaDoorC1
import Derived.Test.YtdcpfmjnkcodiaaDoorProg
namespace Go.Proofs.YtdcpfmjnkcodiaaDoor.We
open Go Go.Jv
open Go.Proofs
def sig : FuncId → Sig := fun f => if [26, 113, 47, 114, 48, 193, 194, 251, 232, 195, 233, 256, 252, 234, 264, 266, 274, 267, 259, 257, 253, 235, 196, 145, 116, 65, 13, 67, 66, 14, 178, 179, 51, 49, 199, 246, 236, 198, 254, 237, 238, 200, 149, 118, 68, 15, 69, 70, 71, 16, 155, 157, 228, 180, 123, 52, 85, 177, 120, 50, 124, 125, 32, 126, 53, 9].contains f then .scal else if [19, 81, 82, 27, 29, 110, 111, 112, 46, 175, 115, 121, 122, 227, 176, 117].contains f then .raw else .dat
def glob : Nat → Option (List Dat) := fun g => if g = 8 then some (lex_signs_tab.map (Dat.str)) else if g = 7 then some (lex_words_tab.map (Dat.str)) else if g = 6 then some (r2_signs_tab.map (Dat.str)) else if g = 5 then some (r2_words_tab.map (Dat.str)) else if g = 2 then some (arith_operands_tab.map (Dat.int .i64)) else none
def ext : FuncId → List Dat → Option (List Dat) := fun f xs => if f = 273 then (match xs with | [(.str a0), (.int .u8 a1)] => some [(.int .i64 (firstIdx a0 a1.toNat.toUInt8))] | _ => none) else none
noncomputable def C : Cfg := cfgOf Tryd.prog glob sig ext
theorem ext0 (f : FuncId) (xs : List Dat) (h : [273].contains f = false) : C.ext f xs = none := by
 show ext f xs = none
 simp only [ext]
 simp at h
 simp [h]
theorem arr120 : arrT C 120 = some (2, 3) := by kernel_rfl
theorem arr225 : arrT C 225 = some (52, 3) := by kernel_rfl
theorem arr268 : arrT C 268 = some (3, 58) := by kernel_rfl
theorem arr289 : arrT C 289 = some (41, 9) := by kernel_rfl
theorem arr290 : arrT C 290 = some (18, 9) := by kernel_rfl
theorem arr329 : arrT C 329 = some (3, 328) := by kernel_rfl
theorem arr333 : arrT C 333 = some (3, 2) := by kernel_rfl
theorem bytes115 : (C.ty 115).map (·.bytes) = some 48 := by kernel_rfl
theorem bytes119 : (C.ty 119).map (·.bytes) = some 16 := by kernel_rfl
theorem bytes140 : (C.ty 140).map (·.bytes) = some 72 := by kernel_rfl
theorem bytes193 : (C.ty 193).map (·.bytes) = some 24 := by kernel_rfl
theorem bytes194 : (C.ty 194).map (·.bytes) = some 24 := by kernel_rfl
theorem bytes196 : (C.ty 196).map (·.bytes) = some 128 := by kernel_rfl
theorem bytes198 : (C.ty 198).map (·.bytes) = some 32 := by kernel_rfl
theorem bytes200 : (C.ty 200).map (·.bytes) = some 48 := by kernel_rfl
theorem bytes203 : (C.ty 203).map (·.bytes) = some 32 := by kernel_rfl
theorem bytes207 : (C.ty 207).map (·.bytes) = some 40 := by kernel_rfl
theorem bytes22 : (C.ty 22).map (·.bytes) = some 24 := by kernel_rfl
theorem bytes3 : (C.ty 3).map (·.bytes) = some 8 := by kernel_rfl
theorem bytes4 : (C.ty 4).map (·.bytes) = some 1 := by kernel_rfl
theorem bytes58 : (C.ty 58).map (·.bytes) = some 24 := by kernel_rfl
theorem bytes86 : (C.ty 86).map (·.bytes) = some 24 := by kernel_rfl
theorem bytes87 : (C.ty 87).map (·.bytes) = some 24 := by kernel_rfl
theorem bytes9 : (C.ty 9).map (·.bytes) = some 16 := by kernel_rfl
theorem bytes90 : (C.ty 90).map (·.bytes) = some 24 := by kernel_rfl
theorem bytes91 : (C.ty 91).map (·.bytes) = some 24 := by kernel_rfl
theorem bytes92 : (C.ty 92).map (·.bytes) = some 24 := by kernel_rfl
theorem bytes93 : (C.ty 93).map (·.bytes) = some 24 := by kernel_rfl
theorem elem117 : elemT C 117 = some 119 := by kernel_rfl
theorem elem122 : elemT C 122 = some 3 := by kernel_rfl
theorem elem194 : elemT C 194 = some 198 := by kernel_rfl
theorem elem22 : elemT C 22 = some 115 := by kernel_rfl
theorem elem239 : elemT C 239 = some 4 := by kernel_rfl
theorem elem31 : elemT C 31 = some 22 := by kernel_rfl
theorem elem32 : elemT C 32 = some 58 := by kernel_rfl
theorem elem33 : elemT C 33 = some 194 := by kernel_rfl
theorem elem34 : elemT C 34 = some 151 := by kernel_rfl
theorem elem35 : elemT C 35 = some 93 := by kernel_rfl
theorem elem36 : elemT C 36 = some 63 := by kernel_rfl
theorem elem37 : elemT C 37 = some 86 := by kernel_rfl
theorem elem38 : elemT C 38 = some 87 := by kernel_rfl
theorem elem39 : elemT C 39 = some 90 := by kernel_rfl
theorem elem40 : elemT C 40 = some 92 := by kernel_rfl
theorem elem41 : elemT C 41 = some 73 := by kernel_rfl
theorem elem42 : elemT C 42 = some 91 := by kernel_rfl
theorem elem43 : elemT C 43 = some 233 := by kernel_rfl
theorem elem45 : elemT C 45 = some 122 := by kernel_rfl
theorem elem46 : elemT C 46 = some 28 := by kernel_rfl
theorem elem47 : elemT C 47 = some 137 := by kernel_rfl
theorem elem58 : elemT C 58 = some 140 := by kernel_rfl
theorem elem86 : elemT C 86 = some 200 := by kernel_rfl
theorem elem87 : elemT C 87 = some 203 := by kernel_rfl
theorem elem90 : elemT C 90 = some 207 := by kernel_rfl
theorem elem91 : elemT C 91 = some 9 := by kernel_rfl
theorem elem92 : elemT C 92 = some 193 := by kernel_rfl
theorem elem93 : elemT C 93 = some 196 := by kernel_rfl
theorem eqs115 : C.eqs 115 = some [1, 1, 2, 1, 1] := by kernel_rfl
theorem eqs193 : C.eqs 193 = some [2, 1] := by kernel_rfl
theorem eqs200 : C.eqs 200 = some [2, 1, 1, 1, 1] := by kernel_rfl
theorem eqs203 : C.eqs 203 = some [1, 1, 1, 1] := by kernel_rfl
theorem eqs207 : C.eqs 207 = some [2, 0, 1, 1] := by kernel_rfl
theorem eqs76 : C.eqs 76 = some [1, 1] := by kernel_rfl
theorem fn110 : C.fn 110 = some Tryd.f110 := by kernel_rfl
theorem fn111 : C.fn 111 = some Tryd.f111 := by kernel_rfl
theorem fn112 : C.fn 112 = some Tryd.f112 := by kernel_rfl
theorem fn113 : C.fn 113 = some Tryd.f113 := by kernel_rfl
theorem fn114 : C.fn 114 = some Tryd.f114 := by kernel_rfl
theorem fn115 : C.fn 115 = some Tryd.f115 := by kernel_rfl
theorem fn116 : C.fn 116 = some Tryd.f116 := by kernel_rfl
theorem fn117 : C.fn 117 = some Tryd.f117 := by kernel_rfl
theorem fn118 : C.fn 118 = some Tryd.f118 := by kernel_rfl
theorem fn119 : C.fn 119 = some Tryd.f119 := by kernel_rfl
theorem fn120 : C.fn 120 = some Tryd.f120 := by kernel_rfl
theorem fn121 : C.fn 121 = some Tryd.f121 := by kernel_rfl
theorem fn122 : C.fn 122 = some Tryd.f122 := by kernel_rfl
theorem fn123 : C.fn 123 = some Tryd.f123 := by kernel_rfl
theorem fn124 : C.fn 124 = some Tryd.f124 := by kernel_rfl
theorem fn125 : C.fn 125 = some Tryd.f125 := by kernel_rfl
theorem fn126 : C.fn 126 = some Tryd.f126 := by kernel_rfl
theorem fn13 : C.fn 13 = some Tryd.f13 := by kernel_rfl
theorem fn14 : C.fn 14 = some Tryd.f14 := by kernel_rfl
theorem fn145 : C.fn 145 = some Tryd.f145 := by kernel_rfl
theorem fn149 : C.fn 149 = some Tryd.f149 := by kernel_rfl
theorem fn15 : C.fn 15 = some Tryd.f15 := by kernel_rfl
theorem fn155 : C.fn 155 = some Tryd.f155 := by kernel_rfl
theorem fn157 : C.fn 157 = some Tryd.f157 := by kernel_rfl
theorem fn16 : C.fn 16 = some Tryd.f16 := by kernel_rfl
theorem fn175 : C.fn 175 = some Tryd.f175 := by kernel_rfl
theorem fn176 : C.fn 176 = some Tryd.f176 := by kernel_rfl
theorem fn177 : C.fn 177 = some Tryd.f177 := by kernel_rfl
theorem fn178 : C.fn 178 = some Tryd.f178 := by kernel_rfl
theorem fn179 : C.fn 179 = some Tryd.f179 := by kernel_rfl
theorem fn180 : C.fn 180 = some Tryd.f180 := by kernel_rfl
theorem fn19 : C.fn 19 = some Tryd.f19 := by kernel_rfl
theorem fn193 : C.fn 193 = some Tryd.f193 := by kernel_rfl
theorem fn194 : C.fn 194 = some Tryd.f194 := by kernel_rfl
theorem fn195 : C.fn 195 = some Tryd.f195 := by kernel_rfl
theorem fn196 : C.fn 196 = some Tryd.f196 := by kernel_rfl
theorem fn198 : C.fn 198 = some Tryd.f198 := by kernel_rfl
theorem fn199 : C.fn 199 = some Tryd.f199 := by kernel_rfl
theorem fn200 : C.fn 200 = some Tryd.f200 := by kernel_rfl
theorem fn227 : C.fn 227 = some Tryd.f227 := by kernel_rfl
theorem fn228 : C.fn 228 = some Tryd.f228 := by kernel_rfl
theorem fn232 : C.fn 232 = some Tryd.f232 := by kernel_rfl
theorem fn233 : C.fn 233 = some Tryd.f233 := by kernel_rfl
theorem fn234 : C.fn 234 = some Tryd.f234 := by kernel_rfl
theorem fn235 : C.fn 235 = some Tryd.f235 := by kernel_rfl
theorem fn236 : C.fn 236 = some Tryd.f236 := by kernel_rfl
theorem fn237 : C.fn 237 = some Tryd.f237 := by kernel_rfl
theorem fn238 : C.fn 238 = some Tryd.f238 := by kernel_rfl
theorem fn246 : C.fn 246 = some Tryd.f246 := by kernel_rfl
theorem fn251 : C.fn 251 = some Tryd.f251 := by kernel_rfl
theorem fn252 : C.fn 252 = some Tryd.f252 := by kernel_rfl
theorem fn253 : C.fn 253 = some Tryd.f253 := by kernel_rfl
theorem fn254 : C.fn 254 = some Tryd.f254 := by kernel_rfl
theorem fn256 : C.fn 256 = some Tryd.f256 := by kernel_rfl
theorem fn257 : C.fn 257 = some Tryd.f257 := by kernel_rfl
theorem fn259 : C.fn 259 = some Tryd.f259 := by kernel_rfl
theorem fn26 : C.fn 26 = some Tryd.f26 := by kernel_rfl
theorem fn264 : C.fn 264 = some Tryd.f264 := by kernel_rfl
theorem fn27 : C.fn 27 = some Tryd.f27 := by kernel_rfl
theorem fn29 : C.fn 29 = some Tryd.f29 := by kernel_rfl
theorem fn32 : C.fn 32 = some Tryd.f32 := by kernel_rfl
theorem fn46 : C.fn 46 = some Tryd.f46 := by kernel_rfl
theorem fn47 : C.fn 47 = some Tryd.f47 := by kernel_rfl
theorem fn48 : C.fn 48 = some Tryd.f48 := by kernel_rfl
theorem fn49 : C.fn 49 = some Tryd.f49 := by kernel_rfl
theorem fn50 : C.fn 50 = some Tryd.f50 := by kernel_rfl
theorem fn51 : C.fn 51 = some Tryd.f51 := by kernel_rfl
theorem fn52 : C.fn 52 = some Tryd.f52 := by kernel_rfl
theorem fn53 : C.fn 53 = some Tryd.f53 := by kernel_rfl
theorem fn65 : C.fn 65 = some Tryd.f65 := by kernel_rfl
theorem fn66 : C.fn 66 = some Tryd.f66 := by kernel_rfl
theorem fn67 : C.fn 67 = some Tryd.f67 := by kernel_rfl
theorem fn68 : C.fn 68 = some Tryd.f68 := by kernel_rfl
theorem fn69 : C.fn 69 = some Tryd.f69 := by kernel_rfl
theorem fn70 : C.fn 70 = some Tryd.f70 := by kernel_rfl
theorem fn71 : C.fn 71 = some Tryd.f71 := by kernel_rfl
theorem fn81 : C.fn 81 = some Tryd.f81 := by kernel_rfl
theorem fn82 : C.fn 82 = some Tryd.f82 := by kernel_rfl
theorem fn85 : C.fn 85 = some Tryd.f85 := by kernel_rfl
theorem fn9 : C.fn 9 = some Tryd.f9 := by kernel_rfl
theorem fo115_0 : fo C 115 0 = some (0, 1, false) := by kernel_rfl
theorem fo115_1 : fo C 115 1 = some (1, 1, false) := by kernel_rfl
theorem fo115_2 : fo C 115 2 = some (2, 1, false) := by kernel_rfl
theorem fo115_3 : fo C 115 3 = some (3, 2, true) := by kernel_rfl
theorem fo119_0 : fo C 119 0 = some (0, 1, false) := by kernel_rfl
theorem fo119_1 : fo C 119 1 = some (1, 1, false) := by kernel_rfl
theorem fo140_0 : fo C 140 0 = some (0, 1, false) := by kernel_rfl
theorem fo140_1 : fo C 140 1 = some (1, 1, false) := by kernel_rfl
theorem fo140_2 : fo C 140 2 = some (2, 1, false) := by kernel_rfl
theorem fo140_3 : fo C 140 3 = some (3, 1, false) := by kernel_rfl
theorem fo140_4 : fo C 140 4 = some (4, 2, true) := by kernel_rfl
theorem fo193_0 : fo C 193 0 = some (0, 1, false) := by kernel_rfl
theorem fo193_1 : fo C 193 1 = some (1, 1, false) := by kernel_rfl
theorem fo196_0 : fo C 196 0 = some (0, 1, false) := by kernel_rfl
theorem fo196_1 : fo C 196 1 = some (1, 1, false) := by kernel_rfl
theorem fo196_2 : fo C 196 2 = some (2, 1, false) := by kernel_rfl
theorem fo196_3 : fo C 196 3 = some (3, 1, false) := by kernel_rfl
theorem fo196_4 : fo C 196 4 = some (4, 1, false) := by kernel_rfl
theorem fo196_5 : fo C 196 5 = some (5, 1, false) := by kernel_rfl
theorem fo196_6 : fo C 196 6 = some (6, 1, false) := by kernel_rfl
theorem fo198_0 : fo C 198 0 = some (0, 1, false) := by kernel_rfl
theorem fo198_1 : fo C 198 1 = some (1, 1, false) := by kernel_rfl
theorem fo200_0 : fo C 200 0 = some (0, 1, false) := by kernel_rfl
theorem fo200_1 : fo C 200 1 = some (1, 1, false) := by kernel_rfl
theorem fo200_2 : fo C 200 2 = some (2, 1, false) := by kernel_rfl
theorem fo200_3 : fo C 200 3 = some (3, 1, false) := by kernel_rfl
theorem fo200_4 : fo C 200 4 = some (4, 1, false) := by kernel_rfl
theorem fo203_0 : fo C 203 0 = some (0, 1, false) := by kernel_rfl
theorem fo203_1 : fo C 203 1 = some (1, 1, false) := by kernel_rfl
theorem fo203_2 : fo C 203 2 = some (2, 1, false) := by kernel_rfl
theorem fo203_3 : fo C 203 3 = some (3, 1, false) := by kernel_rfl
theorem fo207_0 : fo C 207 0 = some (0, 1, false) := by kernel_rfl
theorem fo207_2 : fo C 207 2 = some (2, 1, false) := by kernel_rfl
theorem fo207_3 : fo C 207 3 = some (3, 1, false) := by kernel_rfl
theorem fo328_0 : fo C 328 0 = some (0, 1, false) := by kernel_rfl
theorem fo328_1 : fo C 328 1 = some (1, 1, false) := by kernel_rfl
theorem fo49_0 : fo C 49 0 = some (0, 1, false) := by kernel_rfl
theorem fo49_1 : fo C 49 1 = some (1, 1, false) := by kernel_rfl
theorem fo49_10 : fo C 49 10 = some (10, 1, false) := by kernel_rfl
theorem fo49_11 : fo C 49 11 = some (11, 1, false) := by kernel_rfl
theorem fo49_12 : fo C 49 12 = some (12, 1, false) := by kernel_rfl
theorem fo49_14 : fo C 49 14 = some (14, 1, false) := by kernel_rfl
theorem fo49_15 : fo C 49 15 = some (15, 1, false) := by kernel_rfl
theorem fo49_16 : fo C 49 16 = some (16, 1, false) := by kernel_rfl
theorem fo49_2 : fo C 49 2 = some (2, 1, false) := by kernel_rfl
theorem fo49_3 : fo C 49 3 = some (3, 1, false) := by kernel_rfl
theorem fo49_4 : fo C 49 4 = some (4, 1, false) := by kernel_rfl
theorem fo49_5 : fo C 49 5 = some (5, 1, false) := by kernel_rfl
theorem fo49_6 : fo C 49 6 = some (6, 1, false) := by kernel_rfl
theorem fo49_7 : fo C 49 7 = some (7, 1, false) := by kernel_rfl
theorem fo49_8 : fo C 49 8 = some (8, 1, false) := by kernel_rfl
theorem fo49_9 : fo C 49 9 = some (9, 1, false) := by kernel_rfl
theorem fo76_0 : fo C 76 0 = some (0, 1, false) := by kernel_rfl
theorem fo76_1 : fo C 76 1 = some (1, 1, false) := by kernel_rfl
theorem fo89_0 : fo C 89 0 = some (0, 1, false) := by kernel_rfl
theorem fo89_1 : fo C 89 1 = some (1, 1, false) := by kernel_rfl
theorem fo95_0 : fo C 95 0 = some (0, 1, false) := by kernel_rfl
theorem fo95_1 : fo C 95 1 = some (1, 2, true) := by kernel_rfl
theorem fo95_2 : fo C 95 2 = some (3, 1, false) := by kernel_rfl
theorem fo95_3 : fo C 95 3 = some (4, 1, false) := by kernel_rfl
theorem fo95_4 : fo C 95 4 = some (5, 1, false) := by kernel_rfl
theorem fo95_5 : fo C 95 5 = some (6, 1, false) := by kernel_rfl
theorem fo95_6 : fo C 95 6 = some (7, 1, false) := by kernel_rfl
theorem fo95_7 : fo C 95 7 = some (8, 1, false) := by kernel_rfl
theorem glob2 : C.glob 2 = some (arith_operands_tab.map (Dat.int .i64)) := rfl
theorem glob5 : C.glob 5 = some (r2_words_tab.map (Dat.str)) := rfl
theorem glob6 : C.glob 6 = some (r2_signs_tab.map (Dat.str)) := rfl
theorem glob7 : C.glob 7 = some (lex_words_tab.map (Dat.str)) := rfl
theorem glob8 : C.glob 8 = some (lex_signs_tab.map (Dat.str)) := rfl
theorem isst115 : isStT C 115 = true := by kernel_rfl
theorem isst193 : isStT C 193 = true := by kernel_rfl
theorem isst200 : isStT C 200 = true := by kernel_rfl
theorem isst203 : isStT C 203 = true := by kernel_rfl
theorem isst207 : isStT C 207 = true := by kernel_rfl
theorem isst76 : isStT C 76 = true := by kernel_rfl
theorem mapT266 : mapT C 266 = some (9, 3) := by kernel_rfl
theorem nel120 : elemT C 120 = none := by kernel_rfl
theorem nel225 : elemT C 225 = none := by kernel_rfl
theorem nel289 : elemT C 289 = none := by kernel_rfl
theorem nel290 : elemT C 290 = none := by kernel_rfl
theorem nel333 : elemT C 333 = none := by kernel_rfl
theorem places115 : places C 115 = some [(0, 1), (1, 1), (2, 1), (3, 2)] := by kernel_rfl
theorem places119 : places C 119 = some [(0, 1), (1, 1)] := by kernel_rfl
theorem places140 : places C 140 = some [(0, 1), (1, 1), (2, 1), (3, 1), (4, 2)] := by kernel_rfl
theorem places193 : places C 193 = some [(0, 1), (1, 1)] := by kernel_rfl
theorem places196 : places C 196 = some [(0, 1), (1, 1), (2, 1), (3, 1), (4, 1), (5, 1), (6, 1)] := by kernel_rfl
theorem places198 : places C 198 = some [(0, 1), (1, 1)] := by kernel_rfl
theorem places200 : places C 200 = some [(0, 1), (1, 1), (2, 1), (3, 1), (4, 1)] := by kernel_rfl
theorem places203 : places C 203 = some [(0, 1), (1, 1), (2, 1), (3, 1)] := by kernel_rfl
theorem places207 : places C 207 = some [(0, 1), (1, 1), (2, 1), (3, 1)] := by kernel_rfl
theorem places328 : places C 328 = some [(0, 1), (1, 1)] := by kernel_rfl
theorem places49 : places C 49 = some [(0, 1), (1, 1), (2, 1), (3, 1), (4, 1), (5, 1), (6, 1), (7, 1), (8, 1), (9, 1), (10, 1), (11, 1), (12, 1), (13, 1), (14, 1), (15, 1), (16, 1)] := by kernel_rfl
theorem places76 : places C 76 = some [(0, 1), (1, 1)] := by kernel_rfl
theorem places89 : places C 89 = some [(0, 1), (1, 1)] := by kernel_rfl
theorem places95 : places C 95 = some [(0, 1), (1, 2), (3, 1), (4, 1), (5, 1), (6, 1), (7, 1), (8, 1)] := by kernel_rfl
theorem sig110 : C.sig 110 = .raw := rfl
theorem sig111 : C.sig 111 = .raw := rfl
theorem sig112 : C.sig 112 = .raw := rfl
theorem sig113 : C.sig 113 = .scal := rfl
theorem sig114 : C.sig 114 = .scal := rfl
theorem sig115 : C.sig 115 = .raw := rfl
theorem sig116 : C.sig 116 = .scal := rfl
theorem sig117 : C.sig 117 = .raw := rfl
theorem sig118 : C.sig 118 = .scal := rfl
theorem sig119 : C.sig 119 = .dat := rfl
theorem sig120 : C.sig 120 = .scal := rfl
theorem sig121 : C.sig 121 = .raw := rfl
theorem sig122 : C.sig 122 = .raw := rfl
theorem sig123 : C.sig 123 = .scal := rfl
theorem sig124 : C.sig 124 = .scal := rfl
theorem sig125 : C.sig 125 = .scal := rfl
theorem sig126 : C.sig 126 = .scal := rfl
theorem sig13 : C.sig 13 = .scal := rfl
theorem sig14 : C.sig 14 = .scal := rfl
theorem sig145 : C.sig 145 = .scal := rfl
theorem sig149 : C.sig 149 = .scal := rfl
theorem sig15 : C.sig 15 = .scal := rfl
theorem sig155 : C.sig 155 = .scal := rfl
theorem sig157 : C.sig 157 = .scal := rfl
theorem sig16 : C.sig 16 = .scal := rfl
theorem sig175 : C.sig 175 = .raw := rfl
theorem sig176 : C.sig 176 = .raw := rfl
theorem sig177 : C.sig 177 = .scal := rfl
theorem sig178 : C.sig 178 = .scal := rfl
theorem sig179 : C.sig 179 = .scal := rfl
theorem sig180 : C.sig 180 = .scal := rfl
theorem sig19 : C.sig 19 = .raw := rfl
theorem sig193 : C.sig 193 = .scal := rfl
theorem sig194 : C.sig 194 = .scal := rfl
theorem sig195 : C.sig 195 = .scal := rfl
theorem sig196 : C.sig 196 = .scal := rfl
theorem sig198 : C.sig 198 = .scal := rfl
theorem sig199 : C.sig 199 = .scal := rfl
theorem sig200 : C.sig 200 = .scal := rfl
theorem sig227 : C.sig 227 = .raw := rfl
theorem sig228 : C.sig 228 = .scal := rfl
theorem sig232 : C.sig 232 = .scal := rfl
theorem sig233 : C.sig 233 = .scal := rfl
theorem sig234 : C.sig 234 = .scal := rfl
theorem sig235 : C.sig 235 = .scal := rfl
theorem sig236 : C.sig 236 = .scal := rfl
theorem sig237 : C.sig 237 = .scal := rfl
theorem sig238 : C.sig 238 = .scal := rfl
theorem sig246 : C.sig 246 = .scal := rfl
theorem sig251 : C.sig 251 = .scal := rfl
theorem sig252 : C.sig 252 = .scal := rfl
theorem sig253 : C.sig 253 = .scal := rfl
theorem sig254 : C.sig 254 = .scal := rfl
theorem sig256 : C.sig 256 = .scal := rfl
theorem sig257 : C.sig 257 = .scal := rfl
theorem sig259 : C.sig 259 = .scal := rfl
theorem sig26 : C.sig 26 = .scal := rfl
theorem sig264 : C.sig 264 = .scal := rfl
theorem sig27 : C.sig 27 = .raw := rfl
theorem sig273 : C.sig 273 = .dat := rfl
theorem sig29 : C.sig 29 = .raw := rfl
theorem sig32 : C.sig 32 = .scal := rfl
theorem sig46 : C.sig 46 = .raw := rfl
theorem sig47 : C.sig 47 = .scal := rfl
theorem sig48 : C.sig 48 = .scal := rfl
theorem sig49 : C.sig 49 = .scal := rfl
theorem sig50 : C.sig 50 = .scal := rfl
theorem sig51 : C.sig 51 = .scal := rfl
theorem sig52 : C.sig 52 = .scal := rfl
theorem sig53 : C.sig 53 = .scal := rfl
theorem sig65 : C.sig 65 = .scal := rfl
theorem sig66 : C.sig 66 = .scal := rfl
theorem sig67 : C.sig 67 = .scal := rfl
theorem sig68 : C.sig 68 = .scal := rfl
theorem sig69 : C.sig 69 = .scal := rfl
theorem sig70 : C.sig 70 = .scal := rfl
theorem sig71 : C.sig 71 = .scal := rfl
theorem sig81 : C.sig 81 = .raw := rfl
theorem sig82 : C.sig 82 = .raw := rfl
theorem sig85 : C.sig 85 = .scal := rfl
theorem szg115 : szg C 115 = some (5, true) := by kernel_rfl
theorem szg119 : szg C 119 = some (2, true) := by kernel_rfl
theorem szg120 : szg C 120 = some (2, true) := by kernel_rfl
theorem szg138 : szg C 138 = some (1, false) := by kernel_rfl
theorem szg140 : szg C 140 = some (6, true) := by kernel_rfl
theorem szg193 : szg C 193 = some (2, true) := by kernel_rfl
theorem szg194 : szg C 194 = some (1, false) := by kernel_rfl
theorem szg196 : szg C 196 = some (7, true) := by kernel_rfl
theorem szg198 : szg C 198 = some (2, true) := by kernel_rfl
theorem szg2 : szg C 2 = some (1, false) := by kernel_rfl
theorem szg200 : szg C 200 = some (5, true) := by kernel_rfl
theorem szg203 : szg C 203 = some (4, true) := by kernel_rfl
theorem szg207 : szg C 207 = some (4, true) := by kernel_rfl
theorem szg21 : szg C 21 = some (1, false) := by kernel_rfl
theorem szg22 : szg C 22 = some (1, false) := by kernel_rfl
theorem szg289 : szg C 289 = some (41, true) := by kernel_rfl
theorem szg290 : szg C 290 = some (18, true) := by kernel_rfl
theorem szg3 : szg C 3 = some (1, false) := by kernel_rfl
theorem szg31 : szg C 31 = some (1, false) := by kernel_rfl
theorem szg32 : szg C 32 = some (1, false) := by kernel_rfl
theorem szg328 : szg C 328 = some (2, true) := by kernel_rfl
theorem szg33 : szg C 33 = some (1, false) := by kernel_rfl
theorem szg333 : szg C 333 = some (3, true) := by kernel_rfl
theorem szg34 : szg C 34 = some (1, false) := by kernel_rfl
theorem szg35 : szg C 35 = some (1, false) := by kernel_rfl
theorem szg36 : szg C 36 = some (1, false) := by kernel_rfl
theorem szg37 : szg C 37 = some (1, false) := by kernel_rfl
theorem szg38 : szg C 38 = some (1, false) := by kernel_rfl
theorem szg39 : szg C 39 = some (1, false) := by kernel_rfl
theorem szg4 : szg C 4 = some (1, false) := by kernel_rfl
theorem szg40 : szg C 40 = some (1, false) := by kernel_rfl
theorem szg41 : szg C 41 = some (1, false) := by kernel_rfl
theorem szg42 : szg C 42 = some (1, false) := by kernel_rfl
theorem szg43 : szg C 43 = some (1, false) := by kernel_rfl
theorem szg45 : szg C 45 = some (1, false) := by kernel_rfl
theorem szg46 : szg C 46 = some (1, false) := by kernel_rfl
theorem szg47 : szg C 47 = some (1, false) := by kernel_rfl
theorem szg49 : szg C 49 = some (17, true) := by kernel_rfl
theorem szg58 : szg C 58 = some (1, false) := by kernel_rfl
theorem szg76 : szg C 76 = some (2, true) := by kernel_rfl
theorem szg86 : szg C 86 = some (1, false) := by kernel_rfl
theorem szg87 : szg C 87 = some (1, false) := by kernel_rfl
theorem szg89 : szg C 89 = some (2, true) := by kernel_rfl
theorem szg9 : szg C 9 = some (1, false) := by kernel_rfl
theorem szg90 : szg C 90 = some (1, false) := by kernel_rfl
theorem szg91 : szg C 91 = some (1, false) := by kernel_rfl
theorem szg92 : szg C 92 = some (1, false) := by kernel_rfl
theorem szg93 : szg C 93 = some (1, false) := by kernel_rfl
theorem szg95 : szg C 95 = some (9, true) := by kernel_rfl
theorem ty2 : C.ty 2 = some ⟨.int .i64, 1, 8, [.d (.int .i64 0)]⟩ := by kernel_rfl
theorem ty21 : C.ty 21 = some ⟨.int .i32, 1, 4, [.d (.int .i32 0)]⟩ := by kernel_rfl
theorem ty3 : C.ty 3 = some ⟨.int .i64, 1, 8, [.d (.int .i64 0)]⟩ := by kernel_rfl
theorem ty4 : C.ty 4 = some ⟨.bool, 1, 1, [.d (.bool false)]⟩ := by kernel_rfl
theorem ty5 : C.ty 5 = some ⟨.int .u8, 1, 1, [.d (.int .u8 0)]⟩ := by kernel_rfl
theorem ty9 : C.ty 9 = some ⟨.string, 1, 16, [.d (.str ⟨#[]⟩)]⟩ := by kernel_rfl
theorem zd115 : ∃ z, zeroD C 115 = some z ∧ z.cells.length = 5 ∧ (z.cells.map AV.d).all okC = true := ⟨.agg [(.int .i64 0), (.int .i32 0), (.str ⟨#[]⟩), (.int .i64 0), (.int .i64 0)], by kernel_rfl, rfl, rfl⟩
theorem zd119 : ∃ z, zeroD C 119 = some z ∧ z.cells.length = 2 ∧ (z.cells.map AV.d).all okC = true := ⟨.agg [(.int .i64 0), (.int .i64 0)], by kernel_rfl, rfl, rfl⟩
theorem zd140 : ∃ z, zeroD C 140 = some z ∧ z.cells.length = 6 ∧ (z.cells.map AV.d).all okC = true := ⟨.agg [(.int .i64 0), (.str ⟨#[]⟩), (.int .i64 0), .lst [], (.int .i64 0), (.int .i64 0)], by kernel_rfl, rfl, rfl⟩
theorem zd193 : ∃ z, zeroD C 193 = some z ∧ z.cells.length = 2 ∧ (z.cells.map AV.d).all okC = true := ⟨.agg [(.str ⟨#[]⟩), (.int .i32 0)], by kernel_rfl, rfl, rfl⟩
theorem zd194 : ∃ z, zeroD C 194 = some z ∧ z.cells.length = 1 ∧ (z.cells.map AV.d).all okC = true := ⟨.lst [], by kernel_rfl, rfl, rfl⟩
theorem zd196 : ∃ z, zeroD C 196 = some z ∧ z.cells.length = 7 ∧ (z.cells.map AV.d).all okC = true := ⟨.agg [(.str ⟨#[]⟩), (.int .i64 0), (.int .u64 0), .lst [], .lst [], .lst [], .lst []], by kernel_rfl, rfl, rfl⟩
theorem zd198 : ∃ z, zeroD C 198 = some z ∧ z.cells.length = 2 ∧ (z.cells.map AV.d).all okC = true := ⟨.agg [(.int .i64 0), .lst []], by kernel_rfl, rfl, rfl⟩
theorem zd200 : ∃ z, zeroD C 200 = some z ∧ z.cells.length = 5 ∧ (z.cells.map AV.d).all okC = true := ⟨.agg [(.str ⟨#[]⟩), (.int .i64 0), (.int .i64 0), (.int .i64 0), (.int .i64 0)], by kernel_rfl, rfl, rfl⟩
theorem zd203 : ∃ z, zeroD C 203 = some z ∧ z.cells.length = 4 ∧ (z.cells.map AV.d).all okC = true := ⟨.agg [(.int .i64 0), (.int .i64 0), (.int .i64 0), (.int .i64 0)], by kernel_rfl, rfl, rfl⟩
theorem zd207 : ∃ z, zeroD C 207 = some z ∧ z.cells.length = 4 ∧ (z.cells.map AV.d).all okC = true := ⟨.agg [(.str ⟨#[]⟩), (.bool false), (.int .i64 0), (.int .i64 0)], by kernel_rfl, rfl, rfl⟩
theorem zd22 : ∃ z, zeroD C 22 = some z ∧ z.cells.length = 1 ∧ (z.cells.map AV.d).all okC = true := ⟨.lst [], by kernel_rfl, rfl, rfl⟩
theorem zd3 : ∃ z, zeroD C 3 = some z ∧ z.cells.length = 1 ∧ (z.cells.map AV.d).all okC = true := ⟨(.int .i64 0), by kernel_rfl, rfl, rfl⟩
theorem zd4 : ∃ z, zeroD C 4 = some z ∧ z.cells.length = 1 ∧ (z.cells.map AV.d).all okC = true := ⟨(.bool false), by kernel_rfl, rfl, rfl⟩
theorem zd58 : ∃ z, zeroD C 58 = some z ∧ z.cells.length = 1 ∧ (z.cells.map AV.d).all okC = true := ⟨.lst [], by kernel_rfl, rfl, rfl⟩
theorem zd86 : ∃ z, zeroD C 86 = some z ∧ z.cells.length = 1 ∧ (z.cells.map AV.d).all okC = true := ⟨.lst [], by kernel_rfl, rfl, rfl⟩
theorem zd87 : ∃ z, zeroD C 87 = some z ∧ z.cells.length = 1 ∧ (z.cells.map AV.d).all okC = true := ⟨.lst [], by kernel_rfl, rfl, rfl⟩
theorem zd9 : ∃ z, zeroD C 9 = some z ∧ z.cells.length = 1 ∧ (z.cells.map AV.d).all okC = true := ⟨(.str ⟨#[]⟩), by kernel_rfl, rfl, rfl⟩
theorem zd90 : ∃ z, zeroD C 90 = some z ∧ z.cells.length = 1 ∧ (z.cells.map AV.d).all okC = true := ⟨.lst [], by kernel_rfl, rfl, rfl⟩
theorem zd91 : ∃ z, zeroD C 91 = some z ∧ z.cells.length = 1 ∧ (z.cells.map AV.d).all okC = true := ⟨.lst [], by kernel_rfl, rfl, rfl⟩
theorem zd92 : ∃ z, zeroD C 92 = some z ∧ z.cells.length = 1 ∧ (z.cells.map AV.d).all okC = true := ⟨.lst [], by kernel_rfl, rfl, rfl⟩
theorem zd93 : ∃ z, zeroD C 93 = some z ∧ z.cells.length = 1 ∧ (z.cells.map AV.d).all okC = true := ⟨.lst [], by kernel_rfl, rfl, rfl⟩
theorem zdE3 : zeroD C 3 = some ((.int .i64 0)) := by kernel_rfl
theorem zero115 : (C.ty 115).map (·.zero) = some [.d (.int .i64 0), .d (.int .i32 0), .d (.str ⟨#[]⟩), .d (.int .i64 0), .d (.int .i64 0)] := by kernel_rfl
theorem zero119 : (C.ty 119).map (·.zero) = some [.d (.int .i64 0), .d (.int .i64 0)] := by kernel_rfl
theorem zero120 : (C.ty 120).map (·.zero) = some [.d (.int .i64 0), .d (.int .i64 0)] := by kernel_rfl
theorem zero140 : (C.ty 140).map (·.zero) = some [.d (.int .i64 0), .d (.str ⟨#[]⟩), .d (.int .i64 0), .nil, .d (.int .i64 0), .d (.int .i64 0)] := by kernel_rfl
theorem zero193 : (C.ty 193).map (·.zero) = some [.d (.str ⟨#[]⟩), .d (.int .i32 0)] := by kernel_rfl
theorem zero194 : (C.ty 194).map (·.zero) = some [.nil] := by kernel_rfl
theorem zero196 : (C.ty 196).map (·.zero) = some [.d (.str ⟨#[]⟩), .d (.int .i64 0), .d (.int .u64 0), .nil, .nil, .nil, .nil] := by kernel_rfl
theorem zero198 : (C.ty 198).map (·.zero) = some [.d (.int .i64 0), .nil] := by kernel_rfl
theorem zero200 : (C.ty 200).map (·.zero) = some [.d (.str ⟨#[]⟩), .d (.int .i64 0), .d (.int .i64 0), .d (.int .i64 0), .d (.int .i64 0)] := by kernel_rfl
theorem zero203 : (C.ty 203).map (·.zero) = some [.d (.int .i64 0), .d (.int .i64 0), .d (.int .i64 0), .d (.int .i64 0)] := by kernel_rfl
theorem zero207 : (C.ty 207).map (·.zero) = some [.d (.str ⟨#[]⟩), .d (.bool false), .d (.int .i64 0), .d (.int .i64 0)] := by kernel_rfl
theorem zero22 : (C.ty 22).map (·.zero) = some [.nil] := by kernel_rfl
theorem zero268 : (C.ty 268).map (·.zero) = some [.nil, .nil, .nil] := by kernel_rfl
theorem zero3 : (C.ty 3).map (·.zero) = some [.d (.int .i64 0)] := by kernel_rfl
theorem zero328 : (C.ty 328).map (·.zero) = some [.d (.str ⟨#[]⟩), .d (.int .i64 0)] := by kernel_rfl
theorem zero329 : (C.ty 329).map (·.zero) = some [.d (.str ⟨#[]⟩), .d (.int .i64 0), .d (.str ⟨#[]⟩), .d (.int .i64 0), .d (.str ⟨#[]⟩), .d (.int .i64 0)] := by kernel_rfl
theorem zero333 : (C.ty 333).map (·.zero) = some [.d (.int .i64 0), .d (.int .i64 0), .d (.int .i64 0)] := by kernel_rfl
theorem zero4 : (C.ty 4).map (·.zero) = some [.d (.bool false)] := by kernel_rfl
theorem zero49 : (C.ty 49).map (·.zero) = some [.nil, .nil, .nil, .nil, .nil, .nil, .nil, .nil, .nil, .nil, .nil, .nil, .nil, .nil, .nil, .nil, .nil] := by kernel_rfl
theorem zero58 : (C.ty 58).map (·.zero) = some [.nil] := by kernel_rfl
theorem zero76 : (C.ty 76).map (·.zero) = some [.d (.int .i64 0), .d (.int .i64 0)] := by kernel_rfl
theorem zero86 : (C.ty 86).map (·.zero) = some [.nil] := by kernel_rfl
theorem zero87 : (C.ty 87).map (·.zero) = some [.nil] := by kernel_rfl
theorem zero89 : (C.ty 89).map (·.zero) = some [.nil, .nil] := by kernel_rfl
theorem zero9 : (C.ty 9).map (·.zero) = some [.d (.str ⟨#[]⟩)] := by kernel_rfl
theorem zero90 : (C.ty 90).map (·.zero) = some [.nil] := by kernel_rfl
theorem zero91 : (C.ty 91).map (·.zero) = some [.nil] := by kernel_rfl
theorem zero92 : (C.ty 92).map (·.zero) = some [.nil] := by kernel_rfl
theorem zero93 : (C.ty 93).map (·.zero) = some [.nil] := by kernel_rfl
theorem zero95 : (C.ty 95).map (·.zero) = some [.d (.str ⟨#[]⟩), .nil, .nil, .nil, .nil, .nil, .nil, .nil, .d (.int .i64 0)] := by kernel_rfl
theorem if0 {α : Type} {a b r : α} (h : (if false = true then a else b) = r) : b = r := h
theorem if1 {α : Type} {a b r : α} (h : (if true = true then a else b) = r) : a = r := h
abbrev eB : Bool → List Dat := fun y => [.bool y]
abbrev eI : Int → List Dat := fun y => [.int .i64 y]
theorem Pq {c : Code} {p : Jv.Way} {s : St} {F : Func} {rs : List Dat} {vs : List AV} {H' : Hs} (h1 : resultsA C s F.results.toList = some vs) (h2 : frzAll s.homes vs = some (rs, H')) (h : sub c p = .ret := by rfl) : PAt C c p s (PostD C F rs) := Pt (Cr (pd (.inl rfl) h1 h2)) h
end Go.Proofs.YtdcpfmjnkcodiaaDoor.We
