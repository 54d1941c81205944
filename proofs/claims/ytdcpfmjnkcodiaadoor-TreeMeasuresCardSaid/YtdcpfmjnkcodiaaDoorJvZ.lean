/- Steps of the abstract machine: operations. -/
import Derived.Test.YtdcpfmjnkcodiaaDoorJvY
import Derived.Laws.BitsLemmas
namespace Go.Jv

section
variable {C : Cfg} {e : Operand → AV} {H : Hs} {n : Nat}

theorem opV_act {o : Op} (h : ∀ fv args ats, o ≠ .call ⟨.value fv, args, ats⟩) : opV C e o H n = act C H n e o := by
  rw [opV.eq_def]
  split
  · rename_i fv args ats; exact absurd rfl (h fv args ats)
  · rfl

theorem o_move {x : Operand} : opV C e (.move x) H n = some (e x, H, n) := opV_act (fun _ _ _ h => by cases h)
theorem o_assign {x : Operand} : opV C e (.assign x) H n = some (e x, H, n) := opV_act (fun _ _ _ h => by cases h)
theorem o_pick_t {c a b : Operand} (hc : e c = .d (.bool true)) : opV C e (.pick c a b) H n = some (e a, H, n) := by
  rw [opV_act (fun _ _ _ h => by cases h)]; simp [act, hc]
theorem o_pick_f {c a b : Operand} (hc : e c = .d (.bool false)) : opV C e (.pick c a b) H n = some (e b, H, n) := by
  rw [opV_act (fun _ _ _ h => by cases h)]; simp [act, hc]
theorem o_bin {op : BinOp} {t u : TypeId} {x y : Operand} {r : Dat} (h : binA C op t (e x) (e y) = some r) : opV C e (.binOp op t x y u) H n = some (.d r, H, n) := by
  rw [opV_act (fun _ _ _ h => by cases h)]; simp [act, h]
/-- a comparison, decided -/
theorem o_cmp {op : BinOp} {t u : TypeId} {x y : Operand} {b b' : Bool} (h : binA C op t (e x) (e y) = some (.bool b)) (hb : b = b') : opV C e (.binOp op t x y u) H n = some (.d (.bool b'), H, n) := by
  subst hb; exact o_bin h
theorem wrap_id {m : Int} (h : -9223372036854775808 ≤ m ∧ m ≤ 9223372036854775807) : IntKind.i64.wrap m = m := by rw [IntKind.wrap_i64]; omega
theorem o_add {t u : TypeId} {x y : Operand} {a b : Int} (hx : e x = .d (.int .i64 a)) (hy : e y = .d (.int .i64 b)) (h : -9223372036854775808 ≤ a + b ∧ a + b ≤ 9223372036854775807) :
    opV C e (.binOp .add t x y u) H n = some (.d (.int .i64 (a + b)), H, n) := o_bin (by rw [hx, hy]; simp [binA, datA, binD, binI, wrap_id h])
theorem o_sub {t u : TypeId} {x y : Operand} {a b : Int} (hx : e x = .d (.int .i64 a)) (hy : e y = .d (.int .i64 b)) (h : -9223372036854775808 ≤ a - b ∧ a - b ≤ 9223372036854775807) :
    opV C e (.binOp .sub t x y u) H n = some (.d (.int .i64 (a - b)), H, n) := o_bin (by rw [hx, hy]; simp [binA, datA, binD, binI, wrap_id h])
theorem o_mul {t u : TypeId} {x y : Operand} {a b : Int} (hx : e x = .d (.int .i64 a)) (hy : e y = .d (.int .i64 b)) (h : -9223372036854775808 ≤ a * b ∧ a * b ≤ 9223372036854775807) :
    opV C e (.binOp .mul t x y u) H n = some (.d (.int .i64 (a * b)), H, n) := o_bin (by rw [hx, hy]; simp [binA, datA, binD, binI, wrap_id h])
theorem o_un {op : UnOp} {t : TypeId} {x : Operand} {v r : Dat} (hx : e x = .d v) (h : unD op v = some r) : opV C e (.unOp op t x) H n = some (.d r, H, n) := by
  rw [opV_act (fun _ _ _ h => by cases h)]; simp [act, hx, h]
theorem o_conv {a b : TypeId} {x : Operand} {r : AV} (h : convA C a b (e x) = some r) : opV C e (.convert a b x) H n = some (r, H, n) := by
  rw [opV_act (fun _ _ _ h => by cases h)]; simp [act, h]
theorem o_load {t : TypeId} {p : Operand} {v : AV} (h : loadA C H t (e p) = some v) : opV C e (.load t p) H n = some (v, H, n) := by
  rw [opV_act (fun _ _ _ h => by cases h)]; simp [act, h]
theorem o_store {t : TypeId} {p v : Operand} {H1 : Hs} (h : storeA C H t (e p) (e v) = some H1) : opV C e (.store t p v) H n = some (.undef, H1, n) := by
  rw [opV_act (fun _ _ _ h => by cases h)]; simp [act, h]
theorem o_alloc {t : TypeId} {y : Ty} (h : C.ty t = some y) : opV C e (.alloc t) H n = some (.pt n 0, upd H n (.box y.zero), n + 1) := by
  rw [opV_act (fun _ _ _ h => by cases h)]; simp [act, h]
theorem o_build {t : TypeId} {ps : Array (Nat × Operand)} {v : AV} (h : buildA C t (ps.toList.map fun (i, x) => (i, e x)) = some v) : opV C e (.build t ps) H n = some (v, H, n) := by
  rw [opV_act (fun _ _ _ h => by cases h)]; simp only [act, h]; rfl
theorem o_slice {t : TypeId} {x : Operand} {lo hi : Option Operand} {v : AV} (h : sliceA C H t (e x) (lo.map e) (hi.map e) false = some v) : opV C e (.slice t x lo hi none) H n = some (v, H, n) := by
  rw [opV_act (fun _ _ _ h => by cases h)]; simp [act, h]
theorem o_faddr {t : TypeId} {x : Operand} {f off m : Nat} {g : Bool} {v : AV} (hf : fo C t f = some (off, m, g)) (hm : m ≠ 0) (h : addA (e x) off = some v) : opV C e (.fieldAddr t x f) H n = some (v, H, n) := by
  rw [opV_act (fun _ _ _ h => by cases h), act_fieldAddr hf hm, h]; rfl
theorem o_field {t : TypeId} {x : Operand} {f off m : Nat} {g : Bool} {v : AV} (hf : fo C t f = some (off, m, g)) (h : partA (e x) off m g = some v) : opV C e (.field t x f) H n = some (v, H, n) := by
  rw [opV_act (fun _ _ _ h => by cases h), act_field hf, h]; rfl
theorem o_iaddr {t : TypeId} {x i : Operand} {v : AV} (h : indexAddrA C H t (e x) (e i) = some v) : opV C e (.indexAddr t x i) H n = some (v, H, n) := by
  rw [opV_act (fun _ _ _ h => by cases h)]; simp [act, h]
/-- an element of a list handed in -/
theorem o_iaddrL {t el : TypeId} {x i : Operand} {xs : List Dat} {k : IntKind} {m : Nat} {y : Dat} (hx : e x = .d (.lst xs)) (hi : e i = .d (.int k (m : Int))) (ht : elemT C t = some el) (hy : xs[m]? = some y) (hz : sizeT C el = some y.cells.length) :
    opV C e (.indexAddr t x i) H n = some (.d (.ptr y.cells), H, n) := o_iaddr (by
      have : ¬ ((m : Int) < 0) := by omega
      simp [indexAddrA, hx, hi, intOfA, this, ht, hy, hz])
theorem o_index {t : TypeId} {x i : Operand} {v : AV} (h : indexA C t (e x) (e i) = some v) : opV C e (.index t x i) H n = some (v, H, n) := by
  rw [opV_act (fun _ _ _ h => by cases h)]; simp [act, h]
theorem o_extract {x : Operand} {i : Nat} {vs : List AV} {v : AV} (hx : e x = .tup vs) (h : vs[i]? = some v) : opV C e (.extract x i) H n = some (v, H, n) := by
  rw [opV_act (fun _ _ _ h => by cases h)]; simp [act, hx, h]
theorem o_len {x : Operand} {t : TypeId} {m : Int} (h : lenA C t (e x) = some m) : opV C e (.call ⟨.builtin .len, #[x], #[t]⟩) H n = some (.d (.int .i64 m), H, n) := by
  rw [opV_act (fun _ _ _ h => by cases h)]; simp [act, h]
theorem o_max {args : Array Operand} {ts : Array TypeId} {v : AV} (h : maxA (args.toList.map e) = some v) : opV C e (.call ⟨.builtin .max, args, ts⟩) H n = some (v, H, n) := by
  rw [opV_act (fun _ _ _ h => by cases h)]; simp only [act, h]; rfl
theorem o_min {args : Array Operand} {ts : Array TypeId} {v : AV} (h : minA (args.toList.map e) = some v) : opV C e (.call ⟨.builtin .min, args, ts⟩) H n = some (v, H, n) := by
  rw [opV_act (fun _ _ _ h => by cases h)]; simp only [act, h]; rfl
theorem o_append {s x : Operand} {ts tx : TypeId} {r : AV × Hs × Nat} (h : appendA C H n ts tx (e s) (e x) = some r) : opV C e (.call ⟨.builtin .append, #[s, x], #[ts, tx]⟩) H n = some r := by
  rw [opV_act (fun _ _ _ h => by cases h)]; simp [act, h]
theorem o_ncheck_pt {x : Operand} {id o : Nat} (h : e x = .pt id o) : opV C e (.nilCheck x) H n = some (.pt id o, H, n) := by
  rw [opV_act (fun _ _ _ h => by cases h)]; simp [act, h]
theorem o_ncheck_pe {x : Operand} {id i j : Nat} (h : e x = .pe id i j) : opV C e (.nilCheck x) H n = some (.pe id i j, H, n) := by
  rw [opV_act (fun _ _ _ h => by cases h)]; simp [act, h]
theorem o_ncheck_d {x : Operand} {cs : List Dat} (h : e x = .d (.ptr cs)) : opV C e (.nilCheck x) H n = some (.d (.ptr cs), H, n) := by
  rw [opV_act (fun _ _ _ h => by cases h)]; simp [act, h]

/-- a call of a function named, with trees alone -/
theorem o_dat {f : FuncId} {args : Array Operand} {ts : Array TypeId} {xs rs : List Dat} {H1 : Hs} (he : e (.func f) = .d (.fn f [])) (hs : C.sig f = .dat) (hf : frzAll H (args.toList.map e) = some (xs, H1)) (hc : callD C f xs = some rs) :
    opV C e (.call ⟨.value (.func f), args, ts⟩) H n = some (tupA (rs.map .d), H1, n) := by
  rw [opV]; simp [he, fnOf, hs, hf, hc]
theorem o_scal {f : FuncId} {args : Array Operand} {ts : Array TypeId} {xs rs : List Dat} (he : e (.func f) = .d (.fn f [])) (hs : C.sig f = .scal) (hf : seeAll (see 4 H) (args.toList.map e) = some xs) (hc : callD C f xs = some rs) (hp : rs.all plainD = true) :
    opV C e (.call ⟨.value (.func f), args, ts⟩) H n = some (tupA (rs.map .d), H, n) := by
  rw [opV]; simp only [he, fnOf, hs, List.map_nil, List.append_nil, hf, hc]
  show (if rs.all plainD = true then some (tupA (rs.map .d), H, n) else none) = _
  rw [if_pos hp]
theorem o_raw {f : FuncId} {args : Array Operand} {ts : Array TypeId} {vs : List AV} {H1 : Hs} {n1 : Nat} (he : e (.func f) = .d (.fn f [])) (hs : C.sig f = .raw) (hc : callR C f (args.toList.map e) H n = some (vs, H1, n1)) :
    opV C e (.call ⟨.value (.func f), args, ts⟩) H n = some (tupA vs, H1, n1) := by
  rw [opV]; simp [he, fnOf, hs, hc]

section
variable {s : St} {ops : Array Oper} {rest : List Oper} {R : St → Prop}

/-- a comparison, both ways -/
theorem e_cmpS {dst : Option Tmp} {op : BinOp} {t u ty : TypeId} {x y : Operand} {ps : String} {af : Array Edge} {p : Prop} [Decidable p] (h : binA C op t (ev C s x) (ev C s y) = some (.bool (decide p)))
    (ht : p → EO C ops rest ⟨putR s.regs dst (.d (.bool true)), s.homes, s.next⟩ R) (hf : ¬ p → EO C ops rest ⟨putR s.regs dst (.d (.bool false)), s.homes, s.next⟩ R) :
    EO C ops (⟨dst, .binOp op t x y u, ty, ps, af, none⟩ :: rest) s R := by
  by_cases hp : p
  · exact e_op (o_cmp h (decide_eq_true hp)) (ht hp)
  · exact e_op (o_cmp h (decide_eq_false hp)) (hf hp)

theorem e_cmpN {dst : Option Tmp} {op : BinOp} {t u ty : TypeId} {x y : Operand} {ps : String} {af : Array Edge} {p : Prop} [Decidable p] (h : binA C op t (ev C s x) (ev C s y) = some (.bool (!decide p)))
    (ht : p → EO C ops rest ⟨putR s.regs dst (.d (.bool false)), s.homes, s.next⟩ R) (hf : ¬ p → EO C ops rest ⟨putR s.regs dst (.d (.bool true)), s.homes, s.next⟩ R) :
    EO C ops (⟨dst, .binOp op t x y u, ty, ps, af, none⟩ :: rest) s R := by
  by_cases hp : p
  · exact e_op (o_cmp h (by simp [hp])) (ht hp)
  · exact e_op (o_cmp h (by simp [hp])) (hf hp)

theorem e_cmpSG {dst : Option Tmp} {op : BinOp} {t u ty : TypeId} {x y : Operand} {ps : String} {af : Array Edge} {g : Nat × Bool} (hw : wantedA ops s.regs ⟨dst, .binOp op t x y u, ty, ps, af, some g⟩ = some true) {p : Prop} [Decidable p]
    (h : binA C op t (ev C s x) (ev C s y) = some (.bool (decide p)))
    (ht : p → EO C ops rest ⟨putR s.regs dst (.d (.bool true)), s.homes, s.next⟩ R) (hf : ¬ p → EO C ops rest ⟨putR s.regs dst (.d (.bool false)), s.homes, s.next⟩ R) :
    EO C ops (⟨dst, .binOp op t x y u, ty, ps, af, some g⟩ :: rest) s R := by
  by_cases hp : p
  · exact e_opG hw (o_cmp h (decide_eq_true hp)) (ht hp)
  · exact e_opG hw (o_cmp h (decide_eq_false hp)) (hf hp)

theorem e_cmpNG {dst : Option Tmp} {op : BinOp} {t u ty : TypeId} {x y : Operand} {ps : String} {af : Array Edge} {g : Nat × Bool} (hw : wantedA ops s.regs ⟨dst, .binOp op t x y u, ty, ps, af, some g⟩ = some true) {p : Prop} [Decidable p]
    (h : binA C op t (ev C s x) (ev C s y) = some (.bool (!decide p)))
    (ht : p → EO C ops rest ⟨putR s.regs dst (.d (.bool false)), s.homes, s.next⟩ R) (hf : ¬ p → EO C ops rest ⟨putR s.regs dst (.d (.bool true)), s.homes, s.next⟩ R) :
    EO C ops (⟨dst, .binOp op t x y u, ty, ps, af, some g⟩ :: rest) s R := by
  by_cases hp : p
  · exact e_opG hw (o_cmp h (by simp [hp])) (ht hp)
  · exact e_opG hw (o_cmp h (by simp [hp])) (hf hp)
end

/-- a call with trees alone, out of its body's run -/
theorem callD_of {f : FuncId} {xs rs : List Dat} {F : Func} {code : Code} (hx : C.ext f xs = none) (hf : C.fn f = some F) (hb : F.body = some code)
    (h : EC C code { regs := fun i => if i < xs.length then .d (xs.getD i default) else .undef, homes := fun _ => .dead, next := 0 } fun ex s => (∀ i, ex ≠ .exit i) ∧ ∃ vs rs' r, resultsA C s F.results.toList = some vs ∧ frzAll s.homes vs = some (rs', r) ∧ rs' = rs) :
    callD C f xs = some rs := by
  obtain ⟨⟨ex, s⟩, h1, h2, vs, rs', r, h3, h4, rfl⟩ := h
  rw [callD]
  simp only [hx, hf, hb]
  rw [show (runC C code _) = some (ex, s) from h1]
  cases ex with
  | exit i => exact absurd rfl (h2 i)
  | normal => simp [h3, h4]
  | ret => simp [h3, h4]

theorem callR_of {f : FuncId} {vs rs : List AV} {F : Func} {code : Code} {H1 : Hs} {n1 : Nat} (hf : C.fn f = some F) (hb : F.body = some code)
    (h : EC C code { regs := fun i => if i < vs.length then vs.getD i default else .undef, homes := H, next := n } fun ex s => (∀ i, ex ≠ .exit i) ∧ resultsA C s F.results.toList = some rs ∧ s.homes = H1 ∧ s.next = n1) :
    callR C f vs H n = some (rs, H1, n1) := by
  obtain ⟨⟨ex, s⟩, h1, h2, h3, h4, h5⟩ := h
  rw [callR]
  simp only [hf, hb]
  rw [show (runC C code _) = some (ex, s) from h1]
  cases ex with
  | exit i => exact absurd rfl (h2 i)
  | normal => simp only at h3 h4 h5; simp [h3, h4, h5]
  | ret => simp only at h3 h4 h5; simp [h3, h4, h5]

end
end Go.Jv
