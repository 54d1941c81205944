/- Equations of the abstract machine, for walks by rewriting. -/
import Derived.Test.YtdcpfmjnkcodiaaDoorJvW
namespace Go.Jv

theorem runC_seq (C : Cfg) (a b : Code) (s : St) : runC C (.seq a b) s = (runC C a s).bind fun r => match r.1 with | .normal => runC C b r.2 | e => some (e, r.2) := by
  rw [runC]; rfl
theorem runC_block (C : Cfg) (id : Nat) (a : Code) (s : St) : runC C (.block id a) s = (runC C a s).bind fun r => match r.1 with | .exit id' => if id' = id then some (.normal, r.2) else some (.exit id', r.2) | e => some (e, r.2) := by
  rw [runC]; rfl
theorem runC_loop (C : Cfg) (a : Code) (s : St) : runC C (.loop a) s = (runC C a s).bind fun r => match r.1 with | .normal => runC C (.loop a) r.2 | e => some (e, r.2) := by
  rw [runC]; rfl
theorem runC_cond (C : Cfg) (x : Operand) (a b : Code) (s : St) : runC C (.cond x a b) s = match ev C s x with
    | .d (.bool true) => runC C a s
    | .d (.bool false) => runC C b s
    | _ => none := by
  rw [runC]; rfl
theorem runC_skip (C : Cfg) (s : St) : runC C .skip s = some (.normal, s) := by rw [runC]
theorem runC_ret (C : Cfg) (s : St) : runC C .ret s = some (.ret, s) := by rw [runC]
theorem runC_exit (C : Cfg) (i : Nat) (s : St) : runC C (.exit i) s = some (.exit i, s) := by rw [runC]
theorem runC_region (C : Cfg) (i : Nat) (ops : Array Oper) (s : St) : runC C (.region i ops false) s = (runOps C ops ops.toList s).bind fun s' => some (.normal, s') := by rw [runC]; rfl
theorem runC_draw (C : Cfg) (i : Nat) (ops : Array Oper) (s : St) (h1 : drawStat ops = true) (h2 : (unord ops.toList).isEmpty = true) :
    runC C (.region i ops true) s = (runOps C ops ops.toList s).bind fun s' => some (.normal, s') := by rw [runC]; simp only [h1, h2, if_true]; rfl
theorem runOps_nil (C : Cfg) (ops : Array Oper) (s : St) : runOps C ops [] s = some s := by rw [runOps]
theorem runOps_cons (C : Cfg) (ops : Array Oper) (o : Oper) (rest : List Oper) (s : St) : runOps C ops (o :: rest) s = match wantedA ops s.regs o with
    | none => none
    | some false => runOps C ops rest { s with regs := putR s.regs o.dst .undef }
    | some true => (opV C (ev C s) o.op s.homes s.next).bind fun r => runOps C ops rest { regs := putR s.regs o.dst r.1, homes := r.2.1, next := r.2.2 } := by rw [runOps]; rfl

/-- a field: its offset, its cells, whether it is of many -/
def fo (C : Cfg) (t : TypeId) (f : Nat) : Option (Nat × Nat × Bool) :=
  (fieldOf C t f).bind fun fd => match sizeT C fd.type, aggT C fd.type with | some n, some g => some (fd.offset, n, g) | _, _ => none

theorem fo_parts {C : Cfg} {t : TypeId} {f off n : Nat} {g : Bool} (h : fo C t f = some (off, n, g)) : ∃ fd, fieldOf C t f = some fd ∧ sizeT C fd.type = some n ∧ aggT C fd.type = some g ∧ fd.offset = off := by
  unfold fo at h
  obtain ⟨fd, h1, h2⟩ := Option.bind_eq_some_iff.1 h
  split at h2
  · rename_i n' g' h3 h4
    cases h2
    exact ⟨fd, h1, h3, h4, rfl⟩
  · cases h2

theorem act_fieldAddr {C : Cfg} {t : TypeId} {f off n : Nat} {g : Bool} (h : fo C t f = some (off, n, g)) (hn : n ≠ 0) (H : Hs) (nx : Nat) (e : Operand → AV) (x : Operand) :
    act C H nx e (.fieldAddr t x f) = (addA (e x) off).map fun v => (v, H, nx) := by
  obtain ⟨fd, h1, h2, _, h4⟩ := fo_parts h
  simp [act, h1, h2, h4, hn]

theorem act_field {C : Cfg} {t : TypeId} {f off n : Nat} {g : Bool} (h : fo C t f = some (off, n, g)) (H : Hs) (nx : Nat) (e : Operand → AV) (x : Operand) :
    act C H nx e (.field t x f) = (partA (e x) off n g).map fun v => (v, H, nx) := by
  obtain ⟨fd, h1, h2, h3, h4⟩ := fo_parts h
  simp [act, h1, h2, h3, h4]

/-- the places of a struct's parts -/
def places (C : Cfg) (t : TypeId) : Option (List (Nat × Nat)) :=
  match C.ty t with
  | some y => match y.desc with
    | .struct fs => fs.toList.mapM fun f => (sizeT C f.type).map fun z => (f.offset, z)
    | _ => none
  | none => none

theorem buildA_struct {C : Cfg} {t : TypeId} {ps : List (Nat × Nat)} (h : places C t = some ps) {y : Ty} (hy : C.ty t = some y) (parts : List (Nat × AV)) : buildA C t parts = (fillA okCells (fun i => ps[i]?) y.zero parts).map .agg := by
  unfold places at h
  unfold buildA
  simp only [hy] at h ⊢
  split at h
  · rename_i fs hd
    simp only [hd]
    have : (fun i : Nat => match fs[i]? with | some (f : Field) => (sizeT C f.type).map fun z => (f.offset, z) | none => none) = fun i => ps[i]? := by
      funext i
      obtain ⟨h1, h2⟩ := mapM_get h
      cases hf : fs[i]? with
      | none =>
        have : ps.length ≤ i := by rw [h1]; simpa using hf
        simp [this]
      | some f =>
        obtain ⟨z, hz, hz2⟩ := h2 i f (by simpa using hf)
        simp only [hz2, hz]
    exact congrArg (fun p => (fillA okCells p y.zero parts).map AV.agg) this
  · cases h

/-- the loops of a code, outer ones ahead of inner ones -/
def loopsOf : Code → List Code
  | .seq a b => loopsOf a ++ loopsOf b
  | .cond _ a b => loopsOf a ++ loopsOf b
  | .block _ a => loopsOf a
  | .loop a => .loop a :: loopsOf a
  | _ => []

def loopAt (F : Func) (k : Nat) : Code := ((F.body.map loopsOf).getD []).getD k .skip

end Go.Jv
