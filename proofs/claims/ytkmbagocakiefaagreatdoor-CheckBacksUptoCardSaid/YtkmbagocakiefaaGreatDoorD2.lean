/- The program's tables as the walks use them. Printed by decomp.py. -/
import Derived.Test.YtkmbagocakiefaaGreatDoorD1
import Derived.Test.YtkmbagocakiefaaGreatDoorProg
namespace Go.Proofs.YtkmbagocakiefaaGreatDoor.Wb
open Go Go.Jv
open Go.Proofs
def sig : FuncId → Sig := fun f => if [30, 29, 55, 56, 89, 70, 57, 71, 95, 90, 72, 98, 97, 96, 91, 73, 58, 48, 32, 74, 60, 76, 75, 61, 77, 78, 50, 15, 34, 16, 38, 37, 65, 92, 79, 64, 93, 80, 81, 66, 51, 39, 82, 67, 83, 84, 85, 68, 86, 94, 87, 88, 69, 54, 52, 53, 41, 19, 43, 42, 20, 22, 25, 46, 23, 7, 24, 26, 8, 3].contains f then .scal else if [10, 11, 12, 14, 13, 4, 47, 31, 62, 63, 59, 49, 33, 17, 36, 35, 18, 27, 28, 9].contains f then .raw else .dat
def glob : Nat → Option (List Dat) := fun g => if g = 4 then some (fb.map (Dat.int .i64)) else if g = 3 then some (bI.map (Dat.str)) else if g = 2 then some (bY.map (Dat.str)) else if g = 1 then some (jy.map (Dat.str)) else if g = 0 then some (jx.map (Dat.str)) else none
def ext : FuncId → List Dat → Option (List Dat) := fun f xs => if f = 102 then (match xs with | [(.str a0), (.int .u8 a1)] => some [(.int .i64 (firstIdx a0 a1.toNat.toUInt8))] | _ => none) else none
noncomputable def C : Cfg := Bs Tryz.prog glob sig ext
theorem bu (f : FuncId) (xs : List Dat) (h : [102].contains f = false) : C.ext f xs = none := by
 show ext f xs = none
 simp only [ext]
 simp at h
 simp [h]
theorem BU : iq C 113 = some (3, 69) := by kernel_rfl
theorem II : iq C 152 = some (41, 9) := by kernel_rfl
theorem IJ : iq C 153 = some (18, 9) := by kernel_rfl
theorem xW : iq C 165 = some (2, 3) := by kernel_rfl
theorem IK : iq C 174 = some (3, 173) := by kernel_rfl
theorem IL : iq C 177 = some (52, 3) := by kernel_rfl
theorem IM : iq C 179 = some (3, 2) := by kernel_rfl
theorem tr : iq C 80 = some (3, 21) := by kernel_rfl
theorem vL : (C.ty 105).map (·.bytes) = some 72 := by kernel_rfl
theorem vM : (C.ty 107).map (·.bytes) = some 48 := by kernel_rfl
theorem Fi : (C.ty 118).map (·.bytes) = some 56 := by kernel_rfl
theorem JI : (C.ty 164).map (·.bytes) = some 16 := by kernel_rfl
theorem KO : (C.ty 22).map (·.bytes) = some 24 := by kernel_rfl
theorem KP : (C.ty 23).map (·.bytes) = some 24 := by kernel_rfl
theorem KQ : (C.ty 26).map (·.bytes) = some 24 := by kernel_rfl
theorem KR : (C.ty 27).map (·.bytes) = some 24 := by kernel_rfl
theorem KS : (C.ty 28).map (·.bytes) = some 24 := by kernel_rfl
theorem KT : (C.ty 29).map (·.bytes) = some 24 := by kernel_rfl
theorem uN : (C.ty 3).map (·.bytes) = some 8 := by kernel_rfl
theorem IN : (C.ty 4).map (·.bytes) = some 1 := by kernel_rfl
theorem GE : (C.ty 67).map (·.bytes) = some 24 := by kernel_rfl
theorem KU : (C.ty 69).map (·.bytes) = some 24 := by kernel_rfl
theorem KV : (C.ty 70).map (·.bytes) = some 24 := by kernel_rfl
theorem GG : (C.ty 72).map (·.bytes) = some 128 := by kernel_rfl
theorem KW : (C.ty 74).map (·.bytes) = some 24 := by kernel_rfl
theorem GH : (C.ty 76).map (·.bytes) = some 32 := by kernel_rfl
theorem lr : (C.ty 85).map (·.bytes) = some 224 := by kernel_rfl
theorem GI : (C.ty 88).map (·.bytes) = some 48 := by kernel_rfl
theorem gV : (C.ty 9).map (·.bytes) = some 16 := by kernel_rfl
theorem GJ : (C.ty 90).map (·.bytes) = some 32 := by kernel_rfl
theorem GK : (C.ty 92).map (·.bytes) = some 40 := by kernel_rfl
instance cp : FEl C 101 3 := ⟨by kernel_rfl⟩
instance kz : FEl C 145 4 := ⟨by kernel_rfl⟩
instance pc : FEl C 162 164 := ⟨by kernel_rfl⟩
instance dj : FEl C 22 88 := ⟨by kernel_rfl⟩
instance iS : FEl C 23 90 := ⟨by kernel_rfl⟩
instance ej : FEl C 26 92 := ⟨by kernel_rfl⟩
instance bv : FEl C 27 9 := ⟨by kernel_rfl⟩
instance fq : FEl C 28 67 := ⟨by kernel_rfl⟩
instance dr : FEl C 29 72 := ⟨by kernel_rfl⟩
instance Fj : FEl C 33 74 := ⟨by kernel_rfl⟩
instance Fk : FEl C 34 69 := ⟨by kernel_rfl⟩
instance Fl : FEl C 35 70 := ⟨by kernel_rfl⟩
instance Lr : FEl C 36 81 := ⟨by kernel_rfl⟩
instance Fm : FEl C 37 29 := ⟨by kernel_rfl⟩
instance Ls : FEl C 38 53 := ⟨by kernel_rfl⟩
instance Fn : FEl C 39 22 := ⟨by kernel_rfl⟩
instance Fo : FEl C 40 23 := ⟨by kernel_rfl⟩
instance Fp : FEl C 41 26 := ⟨by kernel_rfl⟩
instance Fq : FEl C 42 28 := ⟨by kernel_rfl⟩
instance Lt : FEl C 43 125 := ⟨by kernel_rfl⟩
instance Fr : FEl C 44 27 := ⟨by kernel_rfl⟩
instance Lu : FEl C 45 128 := ⟨by kernel_rfl⟩
instance Lw : FEl C 47 101 := ⟨by kernel_rfl⟩
instance Lx : FEl C 48 102 := ⟨by kernel_rfl⟩
instance Ly : FEl C 49 103 := ⟨by kernel_rfl⟩
instance eZ : FEl C 53 85 := ⟨by kernel_rfl⟩
instance cf : FEl C 69 105 := ⟨by kernel_rfl⟩
instance ek : FEl C 70 76 := ⟨by kernel_rfl⟩
instance dQ : FEl C 74 107 := ⟨by kernel_rfl⟩
instance me : FEl C 81 118 := ⟨by kernel_rfl⟩
theorem LA : C.eqs 107 = some [1, 1, 2, 1, 1] := by kernel_rfl
theorem N9 : C.eqs 67 = some [2, 1] := by kernel_rfl
theorem BV : C.eqs 79 = some [1, 1] := by kernel_rfl
theorem Na : C.eqs 80 = some [1, 1, 1] := by kernel_rfl
theorem Nd : C.eqs 88 = some [2, 1, 1, 1, 1] := by kernel_rfl
theorem Nf : C.eqs 90 = some [1, 1, 1, 1] := by kernel_rfl
theorem Ng : C.eqs 92 = some [2, 0, 1, 1] := by kernel_rfl
theorem P3 : C.fn 10 = some Tryz.f10 := by kernel_rfl
theorem P4 : C.fn 11 = some Tryz.f11 := by kernel_rfl
theorem P5 : C.fn 12 = some Tryz.f12 := by kernel_rfl
theorem P6 : C.fn 13 = some Tryz.f13 := by kernel_rfl
theorem P7 : C.fn 14 = some Tryz.f14 := by kernel_rfl
theorem P8 : C.fn 15 = some Tryz.f15 := by kernel_rfl
theorem P9 : C.fn 16 = some Tryz.f16 := by kernel_rfl
theorem Pa : C.fn 17 = some Tryz.f17 := by kernel_rfl
theorem Pc : C.fn 18 = some Tryz.f18 := by kernel_rfl
theorem Pd : C.fn 19 = some Tryz.f19 := by kernel_rfl
theorem Pe : C.fn 20 = some Tryz.f20 := by kernel_rfl
theorem Pf : C.fn 21 = some Tryz.f21 := by kernel_rfl
theorem Pg : C.fn 22 = some Tryz.f22 := by kernel_rfl
theorem Ph : C.fn 23 = some Tryz.f23 := by kernel_rfl
theorem Pi : C.fn 24 = some Tryz.f24 := by kernel_rfl
theorem Pj : C.fn 25 = some Tryz.f25 := by kernel_rfl
theorem Pm : C.fn 26 = some Tryz.f26 := by kernel_rfl
theorem Pn : C.fn 27 = some Tryz.f27 := by kernel_rfl
theorem Pp : C.fn 28 = some Tryz.f28 := by kernel_rfl
theorem Pu : C.fn 29 = some Tryz.f29 := by kernel_rfl
theorem fn3 : C.fn 3 = some Tryz.f3 := by kernel_rfl
theorem Pv : C.fn 30 = some Tryz.f30 := by kernel_rfl
theorem Pw : C.fn 31 = some Tryz.f31 := by kernel_rfl
theorem Py : C.fn 32 = some Tryz.f32 := by kernel_rfl
theorem Pz : C.fn 33 = some Tryz.f33 := by kernel_rfl
theorem PA : C.fn 34 = some Tryz.f34 := by kernel_rfl
theorem PB : C.fn 35 = some Tryz.f35 := by kernel_rfl
theorem PC : C.fn 36 = some Tryz.f36 := by kernel_rfl
theorem PD : C.fn 37 = some Tryz.f37 := by kernel_rfl
theorem PE : C.fn 38 = some Tryz.f38 := by kernel_rfl
theorem PF : C.fn 39 = some Tryz.f39 := by kernel_rfl
theorem fn4 : C.fn 4 = some Tryz.f4 := by kernel_rfl
theorem PG : C.fn 40 = some Tryz.f40 := by kernel_rfl
theorem PH : C.fn 41 = some Tryz.f41 := by kernel_rfl
theorem PI : C.fn 42 = some Tryz.f42 := by kernel_rfl
theorem PJ : C.fn 43 = some Tryz.f43 := by kernel_rfl
theorem PL : C.fn 44 = some Tryz.f44 := by kernel_rfl
theorem PM : C.fn 45 = some Tryz.f45 := by kernel_rfl
theorem PN : C.fn 46 = some Tryz.f46 := by kernel_rfl
theorem PO : C.fn 47 = some Tryz.f47 := by kernel_rfl
theorem PP : C.fn 48 = some Tryz.f48 := by kernel_rfl
theorem PQ : C.fn 49 = some Tryz.f49 := by kernel_rfl
theorem fn5 : C.fn 5 = some Tryz.f5 := by kernel_rfl
theorem PR : C.fn 50 = some Tryz.f50 := by kernel_rfl
theorem PS : C.fn 51 = some Tryz.f51 := by kernel_rfl
theorem PT : C.fn 52 = some Tryz.f52 := by kernel_rfl
theorem PU : C.fn 53 = some Tryz.f53 := by kernel_rfl
theorem PV : C.fn 54 = some Tryz.f54 := by kernel_rfl
theorem PW : C.fn 55 = some Tryz.f55 := by kernel_rfl
theorem PX : C.fn 56 = some Tryz.f56 := by kernel_rfl
theorem PY : C.fn 57 = some Tryz.f57 := by kernel_rfl
theorem PZ : C.fn 58 = some Tryz.f58 := by kernel_rfl
theorem Q0 : C.fn 59 = some Tryz.f59 := by kernel_rfl
theorem fn6 : C.fn 6 = some Tryz.f6 := by kernel_rfl
theorem Q1 : C.fn 60 = some Tryz.f60 := by kernel_rfl
theorem Q2 : C.fn 61 = some Tryz.f61 := by kernel_rfl
theorem Q3 : C.fn 62 = some Tryz.f62 := by kernel_rfl
theorem Q4 : C.fn 63 = some Tryz.f63 := by kernel_rfl
theorem Q5 : C.fn 64 = some Tryz.f64 := by kernel_rfl
theorem Q6 : C.fn 65 = some Tryz.f65 := by kernel_rfl
theorem Q7 : C.fn 66 = some Tryz.f66 := by kernel_rfl
theorem Q8 : C.fn 67 = some Tryz.f67 := by kernel_rfl
theorem Q9 : C.fn 68 = some Tryz.f68 := by kernel_rfl
theorem Qa : C.fn 69 = some Tryz.f69 := by kernel_rfl
theorem fn7 : C.fn 7 = some Tryz.f7 := by kernel_rfl
theorem Qb : C.fn 70 = some Tryz.f70 := by kernel_rfl
theorem Qc : C.fn 71 = some Tryz.f71 := by kernel_rfl
theorem Qd : C.fn 72 = some Tryz.f72 := by kernel_rfl
theorem Qe : C.fn 73 = some Tryz.f73 := by kernel_rfl
theorem Qf : C.fn 74 = some Tryz.f74 := by kernel_rfl
theorem Qg : C.fn 75 = some Tryz.f75 := by kernel_rfl
theorem Qh : C.fn 76 = some Tryz.f76 := by kernel_rfl
theorem Qi : C.fn 77 = some Tryz.f77 := by kernel_rfl
theorem Qj : C.fn 78 = some Tryz.f78 := by kernel_rfl
theorem Qk : C.fn 79 = some Tryz.f79 := by kernel_rfl
theorem fn8 : C.fn 8 = some Tryz.f8 := by kernel_rfl
theorem Ql : C.fn 80 = some Tryz.f80 := by kernel_rfl
theorem Qm : C.fn 81 = some Tryz.f81 := by kernel_rfl
theorem Qn : C.fn 82 = some Tryz.f82 := by kernel_rfl
theorem Qo : C.fn 83 = some Tryz.f83 := by kernel_rfl
theorem Qp : C.fn 84 = some Tryz.f84 := by kernel_rfl
theorem Qq : C.fn 85 = some Tryz.f85 := by kernel_rfl
theorem Qr : C.fn 86 = some Tryz.f86 := by kernel_rfl
theorem Qs : C.fn 87 = some Tryz.f87 := by kernel_rfl
theorem Qt : C.fn 88 = some Tryz.f88 := by kernel_rfl
theorem Qu : C.fn 89 = some Tryz.f89 := by kernel_rfl
theorem fn9 : C.fn 9 = some Tryz.f9 := by kernel_rfl
theorem Qv : C.fn 90 = some Tryz.f90 := by kernel_rfl
theorem Qw : C.fn 91 = some Tryz.f91 := by kernel_rfl
theorem Qx : C.fn 92 = some Tryz.f92 := by kernel_rfl
theorem Qy : C.fn 93 = some Tryz.f93 := by kernel_rfl
theorem Qz : C.fn 94 = some Tryz.f94 := by kernel_rfl
theorem QA : C.fn 95 = some Tryz.f95 := by kernel_rfl
theorem QB : C.fn 96 = some Tryz.f96 := by kernel_rfl
theorem QC : C.fn 97 = some Tryz.f97 := by kernel_rfl
theorem QD : C.fn 98 = some Tryz.f98 := by kernel_rfl
instance QZ : FFo C 105 0 0 1 false := ⟨by kernel_rfl, by decide⟩
instance R0 : FFo C 105 1 1 1 false := ⟨by kernel_rfl, by decide⟩
instance R2 : FFo C 105 2 2 1 false := ⟨by kernel_rfl, by decide⟩
instance R3 : FFo C 105 3 3 1 false := ⟨by kernel_rfl, by decide⟩
instance R4 : FFo C 105 4 4 2 true := ⟨by kernel_rfl, by decide⟩
instance R5 : FFo C 107 0 0 1 false := ⟨by kernel_rfl, by decide⟩
instance R6 : FFo C 107 1 1 1 false := ⟨by kernel_rfl, by decide⟩
instance R7 : FFo C 107 2 2 1 false := ⟨by kernel_rfl, by decide⟩
instance R8 : FFo C 107 3 3 2 true := ⟨by kernel_rfl, by decide⟩
instance Ra : FFo C 118 0 0 1 false := ⟨by kernel_rfl, by decide⟩
instance Rb : FFo C 118 1 1 1 false := ⟨by kernel_rfl, by decide⟩
instance Rc : FFo C 118 2 2 2 true := ⟨by kernel_rfl, by decide⟩
instance Rd : FFo C 164 0 0 1 false := ⟨by kernel_rfl, by decide⟩
instance Re : FFo C 164 1 1 1 false := ⟨by kernel_rfl, by decide⟩
instance Rf : FFo C 173 0 0 1 false := ⟨by kernel_rfl, by decide⟩
instance Rh : FFo C 173 1 1 1 false := ⟨by kernel_rfl, by decide⟩
instance Rp : FFo C 25 0 0 1 false := ⟨by kernel_rfl, by decide⟩
instance Rq : FFo C 25 1 1 1 false := ⟨by kernel_rfl, by decide⟩
instance Rr : FFo C 31 0 0 1 false := ⟨by kernel_rfl, by decide⟩
instance Rs : FFo C 31 1 1 2 true := ⟨by kernel_rfl, by decide⟩
instance Rt : FFo C 31 2 3 1 false := ⟨by kernel_rfl, by decide⟩
instance Ru : FFo C 31 3 4 1 false := ⟨by kernel_rfl, by decide⟩
instance Rv : FFo C 31 4 5 1 false := ⟨by kernel_rfl, by decide⟩
instance Rw : FFo C 31 5 6 1 false := ⟨by kernel_rfl, by decide⟩
instance Rx : FFo C 31 6 7 1 false := ⟨by kernel_rfl, by decide⟩
instance Ry : FFo C 31 7 8 1 false := ⟨by kernel_rfl, by decide⟩
instance Rz : FFo C 51 0 0 1 false := ⟨by kernel_rfl, by decide⟩
instance RB : FFo C 51 1 1 1 false := ⟨by kernel_rfl, by decide⟩
instance Ri : FFo C 51 10 10 1 false := ⟨by kernel_rfl, by decide⟩
instance Rj : FFo C 51 11 11 1 false := ⟨by kernel_rfl, by decide⟩
instance Rk : FFo C 51 12 12 1 false := ⟨by kernel_rfl, by decide⟩
instance Rl : FFo C 51 14 14 1 false := ⟨by kernel_rfl, by decide⟩
instance Rm : FFo C 51 15 15 1 false := ⟨by kernel_rfl, by decide⟩
instance Rn : FFo C 51 16 16 1 false := ⟨by kernel_rfl, by decide⟩
instance RC : FFo C 51 2 2 1 false := ⟨by kernel_rfl, by decide⟩
instance RD : FFo C 51 3 3 1 false := ⟨by kernel_rfl, by decide⟩
instance RE : FFo C 51 4 4 1 false := ⟨by kernel_rfl, by decide⟩
instance RF : FFo C 51 5 5 1 false := ⟨by kernel_rfl, by decide⟩
instance RG : FFo C 51 6 6 1 false := ⟨by kernel_rfl, by decide⟩
instance RH : FFo C 51 7 7 1 false := ⟨by kernel_rfl, by decide⟩
instance RI : FFo C 51 8 8 1 false := ⟨by kernel_rfl, by decide⟩
instance RJ : FFo C 51 9 9 1 false := ⟨by kernel_rfl, by decide⟩
instance RK : FFo C 55 0 0 1 false := ⟨by kernel_rfl, by decide⟩
instance RL : FFo C 55 1 1 1 false := ⟨by kernel_rfl, by decide⟩
instance RM : FFo C 67 0 0 1 false := ⟨by kernel_rfl, by decide⟩
instance RN : FFo C 67 1 1 1 false := ⟨by kernel_rfl, by decide⟩
instance RO : FFo C 72 0 0 1 false := ⟨by kernel_rfl, by decide⟩
instance RQ : FFo C 72 1 1 1 false := ⟨by kernel_rfl, by decide⟩
instance RR : FFo C 72 2 2 1 false := ⟨by kernel_rfl, by decide⟩
instance RS : FFo C 72 3 3 1 false := ⟨by kernel_rfl, by decide⟩
instance RT : FFo C 72 4 4 1 false := ⟨by kernel_rfl, by decide⟩
instance RU : FFo C 72 5 5 1 false := ⟨by kernel_rfl, by decide⟩
instance RV : FFo C 72 6 6 1 false := ⟨by kernel_rfl, by decide⟩
instance RW : FFo C 76 0 0 1 false := ⟨by kernel_rfl, by decide⟩
instance RX : FFo C 76 1 1 1 false := ⟨by kernel_rfl, by decide⟩
instance RY : FFo C 79 0 0 1 false := ⟨by kernel_rfl, by decide⟩
instance RZ : FFo C 79 1 1 1 false := ⟨by kernel_rfl, by decide⟩
instance S4 : FFo C 83 0 0 1 false := ⟨by kernel_rfl, by decide⟩
instance S5 : FFo C 83 1 1 1 false := ⟨by kernel_rfl, by decide⟩
instance S6 : FFo C 83 2 2 1 false := ⟨by kernel_rfl, by decide⟩
instance S7 : FFo C 83 3 3 1 false := ⟨by kernel_rfl, by decide⟩
instance S8 : FFo C 83 4 4 1 false := ⟨by kernel_rfl, by decide⟩
instance S9 : FFo C 85 0 0 1 false := ⟨by kernel_rfl, by decide⟩
instance Sa : FFo C 85 1 1 2 true := ⟨by kernel_rfl, by decide⟩
instance Sb : FFo C 85 2 3 1 false := ⟨by kernel_rfl, by decide⟩
instance Sc : FFo C 85 3 4 1 false := ⟨by kernel_rfl, by decide⟩
instance Sd : FFo C 85 4 5 1 false := ⟨by kernel_rfl, by decide⟩
instance Se : FFo C 85 5 6 3 true := ⟨by kernel_rfl, by decide⟩
instance Sf : FFo C 85 6 9 1 false := ⟨by kernel_rfl, by decide⟩
instance Sg : FFo C 85 7 10 5 true := ⟨by kernel_rfl, by decide⟩
instance Sh : FFo C 88 0 0 1 false := ⟨by kernel_rfl, by decide⟩
instance Si : FFo C 88 1 1 1 false := ⟨by kernel_rfl, by decide⟩
instance Sj : FFo C 88 2 2 1 false := ⟨by kernel_rfl, by decide⟩
instance Sk : FFo C 88 3 3 1 false := ⟨by kernel_rfl, by decide⟩
instance Sl : FFo C 88 4 4 1 false := ⟨by kernel_rfl, by decide⟩
instance Sm : FFo C 90 0 0 1 false := ⟨by kernel_rfl, by decide⟩
instance Sn : FFo C 90 1 1 1 false := ⟨by kernel_rfl, by decide⟩
instance So : FFo C 90 2 2 1 false := ⟨by kernel_rfl, by decide⟩
instance Sp : FFo C 90 3 3 1 false := ⟨by kernel_rfl, by decide⟩
instance Sq : FFo C 92 0 0 1 false := ⟨by kernel_rfl, by decide⟩
instance Sr : FFo C 92 1 1 1 false := ⟨by kernel_rfl, by decide⟩
instance Ss : FFo C 92 2 2 1 false := ⟨by kernel_rfl, by decide⟩
instance Su : FFo C 92 3 3 1 false := ⟨by kernel_rfl, by decide⟩
theorem Nh : C.glob 0 = some (jx.map (Dat.str)) := rfl
theorem Ni : C.glob 1 = some (jy.map (Dat.str)) := rfl
theorem Nj : C.glob 2 = some (bY.map (Dat.str)) := rfl
theorem Nn : C.glob 3 = some (bI.map (Dat.str)) := rfl
theorem Kg : C.glob 4 = some (fb.map (Dat.int .i64)) := rfl
theorem KX : pJ C 107 = true := by kernel_rfl
theorem LB : pJ C 67 = true := by kernel_rfl
theorem xX : pJ C 79 = true := by kernel_rfl
theorem LC : pJ C 80 = true := by kernel_rfl
theorem LD : pJ C 88 = true := by kernel_rfl
theorem LE : pJ C 90 = true := by kernel_rfl
theorem LF : pJ C 92 = true := by kernel_rfl
theorem CW : qB C 134 = some (9, 3) := by kernel_rfl
theorem LG : cd C 152 = none := by kernel_rfl
theorem LI : cd C 153 = none := by kernel_rfl
theorem LJ : cd C 165 = none := by kernel_rfl
theorem I9q : cd C 177 = none := by kernel_rfl
theorem LK : cd C 179 = none := by kernel_rfl
theorem xY : dc C 105 = some [(0, 1), (1, 1), (2, 1), (3, 1), (4, 2)] := by kernel_rfl
theorem gu : dc C 107 = some [(0, 1), (1, 1), (2, 1), (3, 2)] := by kernel_rfl
theorem DD : dc C 118 = some [(0, 1), (1, 1), (2, 2)] := by kernel_rfl
theorem IP : dc C 164 = some [(0, 1), (1, 1)] := by kernel_rfl
theorem xZ : dc C 173 = some [(0, 1), (1, 1)] := by kernel_rfl
theorem JJ : dc C 25 = some [(0, 1), (1, 1)] := by kernel_rfl
theorem JK : dc C 31 = some [(0, 1), (1, 2), (3, 1), (4, 1), (5, 1), (6, 1), (7, 1), (8, 1)] := by kernel_rfl
theorem JL : dc C 51 = some [(0, 1), (1, 1), (2, 1), (3, 1), (4, 1), (5, 1), (6, 1), (7, 1), (8, 1), (9, 1), (10, 1), (11, 1), (12, 1), (13, 1), (14, 1), (15, 1), (16, 1)] := by kernel_rfl
theorem vN : dc C 55 = some [(0, 1), (1, 1)] := by kernel_rfl
theorem JM : dc C 67 = some [(0, 1), (1, 1)] := by kernel_rfl
theorem JN : dc C 72 = some [(0, 1), (1, 1), (2, 1), (3, 1), (4, 1), (5, 1), (6, 1)] := by kernel_rfl
theorem Fs : dc C 76 = some [(0, 1), (1, 1)] := by kernel_rfl
theorem Fu : dc C 79 = some [(0, 1), (1, 1)] := by kernel_rfl
theorem JO : dc C 83 = some [(0, 1), (1, 1), (2, 1), (3, 1), (4, 1)] := by kernel_rfl
theorem eo : dc C 85 = some [(0, 1), (1, 2), (3, 1), (4, 1), (5, 1), (6, 3), (9, 1), (10, 5)] := by kernel_rfl
theorem JP : dc C 88 = some [(0, 1), (1, 1), (2, 1), (3, 1), (4, 1)] := by kernel_rfl
theorem JQ : dc C 90 = some [(0, 1), (1, 1), (2, 1), (3, 1)] := by kernel_rfl
theorem JR : dc C 92 = some [(0, 1), (1, 1), (2, 1), (3, 1)] := by kernel_rfl
theorem No : C.sig 10 = .raw := rfl
theorem LM : C.sig 102 = .dat := rfl
theorem Np : C.sig 11 = .raw := rfl
theorem Kh : C.sig 12 = .raw := rfl
theorem Hw : C.sig 13 = .raw := rfl
theorem Ki : C.sig 14 = .raw := rfl
theorem Nq : C.sig 15 = .scal := rfl
theorem Nr : C.sig 16 = .scal := rfl
theorem tt : C.sig 17 = .raw := rfl
theorem Nt : C.sig 18 = .raw := rfl
theorem Nu : C.sig 19 = .scal := rfl
theorem Nv : C.sig 20 = .scal := rfl
theorem Nw : C.sig 21 = .dat := rfl
theorem Em : C.sig 22 = .scal := rfl
theorem Ny : C.sig 23 = .scal := rfl
theorem Nz : C.sig 24 = .scal := rfl
theorem Hx : C.sig 25 = .scal := rfl
theorem NA : C.sig 26 = .scal := rfl
theorem NB : C.sig 27 = .raw := rfl
theorem NC : C.sig 28 = .raw := rfl
theorem ND : C.sig 29 = .scal := rfl
theorem kJ : C.sig 30 = .scal := rfl
theorem NE : C.sig 31 = .raw := rfl
theorem NF : C.sig 32 = .scal := rfl
theorem NG : C.sig 33 = .raw := rfl
theorem Kj : C.sig 34 = .scal := rfl
theorem Hy : C.sig 35 = .raw := rfl
theorem Kk : C.sig 36 = .raw := rfl
theorem NH : C.sig 37 = .scal := rfl
theorem pI : C.sig 38 = .scal := rfl
theorem Kl : C.sig 39 = .scal := rfl
theorem QE : C.sig 4 = .raw := rfl
theorem NI : C.sig 40 = .dat := rfl
theorem NJ : C.sig 41 = .scal := rfl
theorem Hz : C.sig 42 = .scal := rfl
theorem Km : C.sig 43 = .scal := rfl
theorem HA : C.sig 44 = .dat := rfl
theorem Kn : C.sig 45 = .dat := rfl
theorem zb : C.sig 46 = .scal := rfl
theorem NK : C.sig 47 = .raw := rfl
theorem Ko : C.sig 48 = .scal := rfl
theorem HB : C.sig 49 = .raw := rfl
theorem QF : C.sig 5 = .dat := rfl
theorem HC : C.sig 50 = .scal := rfl
theorem NL : C.sig 51 = .scal := rfl
theorem HD : C.sig 52 = .scal := rfl
theorem HE : C.sig 53 = .scal := rfl
theorem HF : C.sig 54 = .scal := rfl
theorem NM : C.sig 55 = .scal := rfl
theorem Kp : C.sig 56 = .scal := rfl
theorem NN : C.sig 57 = .scal := rfl
theorem NO : C.sig 58 = .scal := rfl
theorem NP : C.sig 59 = .raw := rfl
theorem QG : C.sig 6 = .dat := rfl
theorem Kq : C.sig 60 = .scal := rfl
theorem NQ : C.sig 61 = .scal := rfl
theorem NR : C.sig 62 = .raw := rfl
theorem NS : C.sig 63 = .raw := rfl
theorem NT : C.sig 64 = .scal := rfl
theorem Kr : C.sig 65 = .scal := rfl
theorem NU : C.sig 66 = .scal := rfl
theorem Ks : C.sig 67 = .scal := rfl
theorem NV : C.sig 68 = .scal := rfl
theorem NW : C.sig 69 = .scal := rfl
theorem QH : C.sig 7 = .scal := rfl
theorem NX : C.sig 70 = .scal := rfl
theorem HG : C.sig 71 = .scal := rfl
theorem NY : C.sig 72 = .scal := rfl
theorem NZ : C.sig 73 = .scal := rfl
theorem Kt : C.sig 74 = .scal := rfl
theorem O0 : C.sig 75 = .scal := rfl
theorem En : C.sig 76 = .scal := rfl
theorem zc : C.sig 77 = .scal := rfl
theorem O1 : C.sig 78 = .scal := rfl
theorem O2 : C.sig 79 = .scal := rfl
theorem QI : C.sig 8 = .scal := rfl
theorem HH : C.sig 80 = .scal := rfl
theorem O3 : C.sig 81 = .scal := rfl
theorem Ku : C.sig 82 = .scal := rfl
theorem O4 : C.sig 83 = .scal := rfl
theorem O5 : C.sig 84 = .scal := rfl
theorem O6 : C.sig 85 = .scal := rfl
theorem Kv : C.sig 86 = .scal := rfl
theorem O7 : C.sig 87 = .scal := rfl
theorem Kw : C.sig 88 = .scal := rfl
theorem Kx : C.sig 89 = .scal := rfl
theorem QJ : C.sig 9 = .raw := rfl
theorem O8 : C.sig 90 = .scal := rfl
theorem O9 : C.sig 91 = .scal := rfl
theorem HI : C.sig 92 = .scal := rfl
theorem Oa : C.sig 93 = .scal := rfl
theorem Ky : C.sig 94 = .scal := rfl
theorem Ob : C.sig 95 = .scal := rfl
theorem Oc : C.sig 96 = .scal := rfl
theorem Od : C.sig 97 = .scal := rfl
theorem Oe : C.sig 98 = .scal := rfl
instance Sv : FSz C 101 1 false := ⟨by kernel_rfl⟩
instance Sw : FSz C 102 1 false := ⟨by kernel_rfl⟩
instance Sx : FSz C 103 1 false := ⟨by kernel_rfl⟩
instance bj : FSz C 105 6 true := ⟨by kernel_rfl⟩
instance bm : FSz C 107 5 true := ⟨by kernel_rfl⟩
instance mf : FSz C 118 4 true := ⟨by kernel_rfl⟩
instance Sy : FSz C 125 1 false := ⟨by kernel_rfl⟩
instance Sz : FSz C 128 1 false := ⟨by kernel_rfl⟩
instance LN : FSz C 152 41 true := ⟨by kernel_rfl⟩
instance LO : FSz C 153 18 true := ⟨by kernel_rfl⟩
instance mg : FSz C 164 2 true := ⟨by kernel_rfl⟩
instance nU : FSz C 165 2 true := ⟨by kernel_rfl⟩
instance Fv : FSz C 173 2 true := ⟨by kernel_rfl⟩
instance LP : FSz C 179 3 true := ⟨by kernel_rfl⟩
instance JS : FSz C 2 1 false := ⟨by kernel_rfl⟩
instance tu : FSz C 21 1 false := ⟨by kernel_rfl⟩
instance Eo : FSz C 22 1 false := ⟨by kernel_rfl⟩
instance Ep : FSz C 23 1 false := ⟨by kernel_rfl⟩
instance my : FSz C 25 2 true := ⟨by kernel_rfl⟩
instance Eq : FSz C 26 1 false := ⟨by kernel_rfl⟩
instance ze : FSz C 27 1 false := ⟨by kernel_rfl⟩
instance BW : FSz C 28 1 false := ⟨by kernel_rfl⟩
instance BX : FSz C 29 1 false := ⟨by kernel_rfl⟩
instance bZ : FSz C 3 1 false := ⟨by kernel_rfl⟩
instance bJ : FSz C 31 9 true := ⟨by kernel_rfl⟩
instance Of : FSz C 33 1 false := ⟨by kernel_rfl⟩
instance Og : FSz C 34 1 false := ⟨by kernel_rfl⟩
instance Oh : FSz C 35 1 false := ⟨by kernel_rfl⟩
instance SA : FSz C 36 1 false := ⟨by kernel_rfl⟩
instance Oi : FSz C 37 1 false := ⟨by kernel_rfl⟩
instance SB : FSz C 38 1 false := ⟨by kernel_rfl⟩
instance Oj : FSz C 39 1 false := ⟨by kernel_rfl⟩
instance lQ : FSz C 4 1 false := ⟨by kernel_rfl⟩
instance Ok : FSz C 40 1 false := ⟨by kernel_rfl⟩
instance Ol : FSz C 41 1 false := ⟨by kernel_rfl⟩
instance Om : FSz C 42 1 false := ⟨by kernel_rfl⟩
instance SC : FSz C 43 1 false := ⟨by kernel_rfl⟩
instance On : FSz C 44 1 false := ⟨by kernel_rfl⟩
instance SD : FSz C 45 1 false := ⟨by kernel_rfl⟩
instance SE : FSz C 47 1 false := ⟨by kernel_rfl⟩
instance SF : FSz C 48 1 false := ⟨by kernel_rfl⟩
instance SG : FSz C 49 1 false := ⟨by kernel_rfl⟩
instance Oo : FSz C 51 17 true := ⟨by kernel_rfl⟩
instance rk : FSz C 53 1 false := ⟨by kernel_rfl⟩
instance iB : FSz C 55 2 true := ⟨by kernel_rfl⟩
instance dB : FSz C 67 2 true := ⟨by kernel_rfl⟩
instance SH : FSz C 68 1 false := ⟨by kernel_rfl⟩
instance kK : FSz C 69 1 false := ⟨by kernel_rfl⟩
instance BY : FSz C 70 1 false := ⟨by kernel_rfl⟩
instance bK : FSz C 72 7 true := ⟨by kernel_rfl⟩
instance BZ : FSz C 74 1 false := ⟨by kernel_rfl⟩
instance cZ : FSz C 76 2 true := ⟨by kernel_rfl⟩
instance tv : FSz C 79 2 true := ⟨by kernel_rfl⟩
instance Kz : FSz C 80 3 true := ⟨by kernel_rfl⟩
instance KA : FSz C 81 1 false := ⟨by kernel_rfl⟩
instance nV : FSz C 83 5 true := ⟨by kernel_rfl⟩
instance dC : FSz C 85 15 true := ⟨by kernel_rfl⟩
instance cq : FSz C 88 5 true := ⟨by kernel_rfl⟩
instance bM : FSz C 9 1 false := ⟨by kernel_rfl⟩
instance dO : FSz C 90 4 true := ⟨by kernel_rfl⟩
instance df : FSz C 92 4 true := ⟨by kernel_rfl⟩
theorem ty2 : C.ty 2 = some ⟨.int .i64, 1, 8, [.d (.int .i64 0)]⟩ := by kernel_rfl
instance : FIn C 2 .i64 := ⟨_, _, _, ty2⟩
theorem uf : C.ty 21 = some ⟨.int .i32, 1, 4, [.d (.int .i32 0)]⟩ := by kernel_rfl
instance : FIn C 21 .i32 := ⟨_, _, _, uf⟩
theorem ty3 : C.ty 3 = some ⟨.int .i64, 1, 8, [.d (.int .i64 0)]⟩ := by kernel_rfl
instance : FIn C 3 .i64 := ⟨_, _, _, ty3⟩
theorem ty5 : C.ty 5 = some ⟨.int .u8, 1, 1, [.d (.int .u8 0)]⟩ := by kernel_rfl
instance : FIn C 5 .u8 := ⟨_, _, _, ty5⟩
theorem ty9 : C.ty 9 = some ⟨.string, 1, 16, [.d (.str ⟨#[]⟩)]⟩ := by kernel_rfl
theorem Er : ∃ z, cw C 105 = some z ∧ z.cells.length = 6 ∧ (z.cells.map AV.d).all okC = true := ⟨.agg [(.int .i64 0), (.str ⟨#[]⟩), (.int .i64 0), .lst [], (.int .i64 0), (.int .i64 0)], by kernel_rfl, rfl, rfl⟩
theorem HJ : ∃ z, cw C 107 = some z ∧ z.cells.length = 5 ∧ (z.cells.map AV.d).all okC = true := ⟨.agg [(.int .i64 0), (.int .i32 0), (.str ⟨#[]⟩), (.int .i64 0), (.int .i64 0)], by kernel_rfl, rfl, rfl⟩
theorem KB : ∃ z, cw C 118 = some z ∧ z.cells.length = 4 ∧ (z.cells.map AV.d).all okC = true := ⟨.agg [(.str ⟨#[]⟩), .lst [], (.int .i64 0), (.int .i64 0)], by kernel_rfl, rfl, rfl⟩
theorem Oq : ∃ z, cw C 164 = some z ∧ z.cells.length = 2 ∧ (z.cells.map AV.d).all okC = true := ⟨.agg [(.int .i64 0), (.int .i64 0)], by kernel_rfl, rfl, rfl⟩
theorem QK : ∃ z, cw C 22 = some z ∧ z.cells.length = 1 ∧ (z.cells.map AV.d).all okC = true := ⟨.lst [], by kernel_rfl, rfl, rfl⟩
theorem QL : ∃ z, cw C 23 = some z ∧ z.cells.length = 1 ∧ (z.cells.map AV.d).all okC = true := ⟨.lst [], by kernel_rfl, rfl, rfl⟩
theorem QM : ∃ z, cw C 26 = some z ∧ z.cells.length = 1 ∧ (z.cells.map AV.d).all okC = true := ⟨.lst [], by kernel_rfl, rfl, rfl⟩
theorem QN : ∃ z, cw C 27 = some z ∧ z.cells.length = 1 ∧ (z.cells.map AV.d).all okC = true := ⟨.lst [], by kernel_rfl, rfl, rfl⟩
theorem QO : ∃ z, cw C 28 = some z ∧ z.cells.length = 1 ∧ (z.cells.map AV.d).all okC = true := ⟨.lst [], by kernel_rfl, rfl, rfl⟩
theorem QP : ∃ z, cw C 29 = some z ∧ z.cells.length = 1 ∧ (z.cells.map AV.d).all okC = true := ⟨.lst [], by kernel_rfl, rfl, rfl⟩
theorem zd3 : ∃ z, cw C 3 = some z ∧ z.cells.length = 1 ∧ (z.cells.map AV.d).all okC = true := ⟨(.int .i64 0), by kernel_rfl, rfl, rfl⟩
theorem zd4 : ∃ z, cw C 4 = some z ∧ z.cells.length = 1 ∧ (z.cells.map AV.d).all okC = true := ⟨(.bool false), by kernel_rfl, rfl, rfl⟩
theorem QQ : ∃ z, cw C 67 = some z ∧ z.cells.length = 2 ∧ (z.cells.map AV.d).all okC = true := ⟨.agg [(.str ⟨#[]⟩), (.int .i32 0)], by kernel_rfl, rfl, rfl⟩
theorem QR : ∃ z, cw C 69 = some z ∧ z.cells.length = 1 ∧ (z.cells.map AV.d).all okC = true := ⟨.lst [], by kernel_rfl, rfl, rfl⟩
theorem QS : ∃ z, cw C 70 = some z ∧ z.cells.length = 1 ∧ (z.cells.map AV.d).all okC = true := ⟨.lst [], by kernel_rfl, rfl, rfl⟩
theorem LQ : ∃ z, cw C 72 = some z ∧ z.cells.length = 7 ∧ (z.cells.map AV.d).all okC = true := ⟨.agg [(.str ⟨#[]⟩), (.int .i64 0), (.int .u64 0), .lst [], .lst [], .lst [], .lst []], by kernel_rfl, rfl, rfl⟩
theorem QT : ∃ z, cw C 74 = some z ∧ z.cells.length = 1 ∧ (z.cells.map AV.d).all okC = true := ⟨.lst [], by kernel_rfl, rfl, rfl⟩
theorem LR : ∃ z, cw C 76 = some z ∧ z.cells.length = 2 ∧ (z.cells.map AV.d).all okC = true := ⟨.agg [(.int .i64 0), .lst []], by kernel_rfl, rfl, rfl⟩
theorem vO : ∃ z, cw C 85 = some z ∧ z.cells.length = 15 ∧ (z.cells.map AV.d).all okC = true := ⟨.agg [(.int .i64 0), (.int .i64 0), (.int .i64 0), (.str ⟨#[]⟩), (.str ⟨#[]⟩), (.int .i64 0), (.int .i32 0), (.int .i32 0), (.int .i32 0), .lst [], .lst [], .lst [], .lst [], .lst [], .lst []], by kernel_rfl, rfl, rfl⟩
theorem QU : ∃ z, cw C 88 = some z ∧ z.cells.length = 5 ∧ (z.cells.map AV.d).all okC = true := ⟨.agg [(.str ⟨#[]⟩), (.int .i64 0), (.int .i64 0), (.int .i64 0), (.int .i64 0)], by kernel_rfl, rfl, rfl⟩
theorem zd9 : ∃ z, cw C 9 = some z ∧ z.cells.length = 1 ∧ (z.cells.map AV.d).all okC = true := ⟨(.str ⟨#[]⟩), by kernel_rfl, rfl, rfl⟩
theorem QV : ∃ z, cw C 90 = some z ∧ z.cells.length = 4 ∧ (z.cells.map AV.d).all okC = true := ⟨.agg [(.int .i64 0), (.int .i64 0), (.int .i64 0), (.int .i64 0)], by kernel_rfl, rfl, rfl⟩
theorem QW : ∃ z, cw C 92 = some z ∧ z.cells.length = 4 ∧ (z.cells.map AV.d).all okC = true := ⟨.agg [(.str ⟨#[]⟩), (.bool false), (.int .i64 0), (.int .i64 0)], by kernel_rfl, rfl, rfl⟩
theorem QX : cw C 3 = some ((.int .i64 0)) := by kernel_rfl
theorem fM : (C.ty 105).map (·.zero) = some [.d (.int .i64 0), .d (.str ⟨#[]⟩), .d (.int .i64 0), .nil, .d (.int .i64 0), .d (.int .i64 0)] := by kernel_rfl
theorem dE : (C.ty 107).map (·.zero) = some [.d (.int .i64 0), .d (.int .i32 0), .d (.str ⟨#[]⟩), .d (.int .i64 0), .d (.int .i64 0)] := by kernel_rfl
theorem GL : (C.ty 113).map (·.zero) = some [.nil, .nil, .nil] := by kernel_rfl
theorem zf : (C.ty 118).map (·.zero) = some [.d (.str ⟨#[]⟩), .nil, .d (.int .i64 0), .d (.int .i64 0)] := by kernel_rfl
theorem zg : (C.ty 164).map (·.zero) = some [.d (.int .i64 0), .d (.int .i64 0)] := by kernel_rfl
theorem rC : (C.ty 165).map (·.zero) = some [.d (.int .i64 0), .d (.int .i64 0)] := by kernel_rfl
theorem zh : (C.ty 173).map (·.zero) = some [.d (.str ⟨#[]⟩), .d (.int .i64 0)] := by kernel_rfl
theorem KY : (C.ty 174).map (·.zero) = some [.d (.str ⟨#[]⟩), .d (.int .i64 0), .d (.str ⟨#[]⟩), .d (.int .i64 0), .d (.str ⟨#[]⟩), .d (.int .i64 0)] := by kernel_rfl
theorem GM : (C.ty 179).map (·.zero) = some [.d (.int .i64 0), .d (.int .i64 0), .d (.int .i64 0)] := by kernel_rfl
theorem LS : (C.ty 22).map (·.zero) = some [.nil] := by kernel_rfl
theorem LT : (C.ty 23).map (·.zero) = some [.nil] := by kernel_rfl
theorem IQ : (C.ty 25).map (·.zero) = some [.nil, .nil] := by kernel_rfl
theorem LU : (C.ty 26).map (·.zero) = some [.nil] := by kernel_rfl
theorem LV : (C.ty 27).map (·.zero) = some [.nil] := by kernel_rfl
theorem LW : (C.ty 28).map (·.zero) = some [.nil] := by kernel_rfl
theorem LX : (C.ty 29).map (·.zero) = some [.nil] := by kernel_rfl
theorem zi : (C.ty 3).map (·.zero) = some [.d (.int .i64 0)] := by kernel_rfl
theorem C0 : (C.ty 31).map (·.zero) = some [.d (.str ⟨#[]⟩), .nil, .nil, .nil, .nil, .nil, .nil, .nil, .d (.int .i64 0)] := by kernel_rfl
theorem KC : (C.ty 4).map (·.zero) = some [.d (.bool false)] := by kernel_rfl
theorem LY : (C.ty 51).map (·.zero) = some [.nil, .nil, .nil, .nil, .nil, .nil, .nil, .nil, .nil, .nil, .nil, .nil, .nil, .nil, .nil, .nil, .nil] := by kernel_rfl
theorem mh : (C.ty 55).map (·.zero) = some [.d (.str ⟨#[]⟩), .nil] := by kernel_rfl
theorem uO : (C.ty 67).map (·.zero) = some [.d (.str ⟨#[]⟩), .d (.int .i32 0)] := by kernel_rfl
theorem LZ : (C.ty 69).map (·.zero) = some [.nil] := by kernel_rfl
theorem M0 : (C.ty 70).map (·.zero) = some [.nil] := by kernel_rfl
theorem kf : (C.ty 72).map (·.zero) = some [.d (.str ⟨#[]⟩), .d (.int .i64 0), .d (.int .u64 0), .nil, .nil, .nil, .nil] := by kernel_rfl
theorem M1 : (C.ty 74).map (·.zero) = some [.nil] := by kernel_rfl
theorem mi : (C.ty 76).map (·.zero) = some [.d (.int .i64 0), .nil] := by kernel_rfl
theorem IR : (C.ty 79).map (·.zero) = some [.d (.int .i64 0), .d (.int .i64 0)] := by kernel_rfl
theorem pY : (C.ty 80).map (·.zero) = some [.d (.int .i32 0), .d (.int .i32 0), .d (.int .i32 0)] := by kernel_rfl
theorem yb : (C.ty 83).map (·.zero) = some [.nil, .nil, .nil, .nil, .nil] := by kernel_rfl
theorem cO : (C.ty 85).map (·.zero) = some [.d (.int .i64 0), .d (.int .i64 0), .d (.int .i64 0), .d (.str ⟨#[]⟩), .d (.str ⟨#[]⟩), .d (.int .i64 0), .d (.int .i32 0), .d (.int .i32 0), .d (.int .i32 0), .nil, .nil, .nil, .nil, .nil, .nil] := by kernel_rfl
theorem pZ : (C.ty 88).map (·.zero) = some [.d (.str ⟨#[]⟩), .d (.int .i64 0), .d (.int .i64 0), .d (.int .i64 0), .d (.int .i64 0)] := by kernel_rfl
theorem mz : (C.ty 9).map (·.zero) = some [.d (.str ⟨#[]⟩)] := by kernel_rfl
theorem qa : (C.ty 90).map (·.zero) = some [.d (.int .i64 0), .d (.int .i64 0), .d (.int .i64 0), .d (.int .i64 0)] := by kernel_rfl
theorem uP : (C.ty 92).map (·.zero) = some [.d (.str ⟨#[]⟩), .d (.bool false), .d (.int .i64 0), .d (.int .i64 0)] := by kernel_rfl
end Go.Proofs.YtkmbagocakiefaaGreatDoor.Wb
