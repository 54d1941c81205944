/- Steps of the abstract machine, one lemma each: walks by backward chaining. -/
import Derived.Test.YtdcpfmjnkcodiaaDoorJvX
namespace Go.Jv

def Ends {α : Type} (r : Option α) (Q : α → Prop) : Prop := ∃ a, r = some a ∧ Q a

theorem Ends.mono {α : Type} {r : Option α} {Q Q' : α → Prop} (h : Ends r Q) (hq : ∀ a, Q a → Q' a) : Ends r Q' := let ⟨a, h1, h2⟩ := h; ⟨a, h1, hq a h2⟩

theorem Ends.eq {α : Type} {r : Option α} {v : α} (h : Ends r (fun a => a = v)) : r = some v := let ⟨_, h1, h2⟩ := h; h2 ▸ h1

/-- what follows a code that ends as ordinary -/
def Nx (b : St → Prop) (Q : Ex → St → Prop) : Ex → St → Prop
  | .normal, s => b s
  | e, s => Q e s

/-- a code's run ends so -/
def EC (C : Cfg) (c : Code) (s : St) (Q : Ex → St → Prop) : Prop := Ends (runC C c s) fun r => Q r.1 r.2

def EO (C : Cfg) (ops : Array Oper) (l : List Oper) (s : St) (R : St → Prop) : Prop := Ends (runOps C ops l s) R

def Blk (id : Nat) (Q : Ex → St → Prop) : Ex → St → Prop
  | .exit id', s => if id' = id then Q .normal s else Q (.exit id') s
  | e, s => Q e s

section
variable {C : Cfg} {s : St} {Q : Ex → St → Prop} {ops : Array Oper} {rest : List Oper} {R : St → Prop}

theorem e_seq {a b : Code} (h : EC C a s (Nx (fun s' => EC C b s' Q) Q)) : EC C (.seq a b) s Q := by
  obtain ⟨⟨e, s'⟩, h1, h2⟩ := h
  cases e with
  | normal => obtain ⟨r, h3, h4⟩ := h2; exact ⟨r, by rw [runC_seq, h1]; exact h3, h4⟩
  | exit id => exact ⟨_, by rw [runC_seq, h1]; rfl, h2⟩
  | ret => exact ⟨_, by rw [runC_seq, h1]; rfl, h2⟩

theorem e_region {i : Nat} (h : EO C ops ops.toList s (fun s' => Q .normal s')) : EC C (.region i ops false) s Q := by
  obtain ⟨s', h1, h2⟩ := h
  exact ⟨_, by rw [runC_region, h1]; rfl, h2⟩

theorem e_draw {i : Nat} (hd : drawStat ops = true) (hu : (unord ops.toList).isEmpty = true) (h : EO C ops ops.toList s (fun s' => Q .normal s')) : EC C (.region i ops true) s Q := by
  obtain ⟨s', h1, h2⟩ := h
  exact ⟨_, by rw [runC_draw C i ops s hd hu, h1]; rfl, h2⟩

theorem e_nil (h : R s) : EO C ops [] s R := ⟨s, runOps_nil .., h⟩

theorem e_op {dst : Option Tmp} {op : Op} {t : TypeId} {p : String} {af : Array Edge} {v : AV} {H1 : Hs} {n1 : Nat} (ho : opV C (ev C s) op s.homes s.next = some (v, H1, n1))
    (h : EO C ops rest ⟨putR s.regs dst v, H1, n1⟩ R) : EO C ops (⟨dst, op, t, p, af, none⟩ :: rest) s R := by
  obtain ⟨s', h1, h2⟩ := h
  exact ⟨s', by rw [runOps_cons]; simp only [wantedA, ho]; exact h1, h2⟩

theorem e_opG {dst : Option Tmp} {op : Op} {t : TypeId} {p : String} {af : Array Edge} {g : Nat × Bool} {v : AV} {H1 : Hs} {n1 : Nat} (hw : wantedA ops s.regs ⟨dst, op, t, p, af, some g⟩ = some true) (ho : opV C (ev C s) op s.homes s.next = some (v, H1, n1))
    (h : EO C ops rest ⟨putR s.regs dst v, H1, n1⟩ R) : EO C ops (⟨dst, op, t, p, af, some g⟩ :: rest) s R := by
  obtain ⟨s', h1, h2⟩ := h
  exact ⟨s', by rw [runOps_cons, hw]; simp only [ho]; exact h1, h2⟩

theorem e_opN {dst : Option Tmp} {op : Op} {t : TypeId} {p : String} {af : Array Edge} {g : Nat × Bool} (hw : wantedA ops s.regs ⟨dst, op, t, p, af, some g⟩ = some false)
    (h : EO C ops rest ⟨putR s.regs dst .undef, s.homes, s.next⟩ R) : EO C ops (⟨dst, op, t, p, af, some g⟩ :: rest) s R := by
  obtain ⟨s', h1, h2⟩ := h
  exact ⟨s', by rw [runOps_cons, hw]; exact h1, h2⟩

theorem e_cond_t {x : Operand} {a b : Code} (hx : ev C s x = .d (.bool true)) (h : EC C a s Q) : EC C (.cond x a b) s Q := by
  obtain ⟨r, h1, h2⟩ := h
  exact ⟨r, by rw [runC_cond, hx]; exact h1, h2⟩

theorem e_cond_f {x : Operand} {a b : Code} (hx : ev C s x = .d (.bool false)) (h : EC C b s Q) : EC C (.cond x a b) s Q := by
  obtain ⟨r, h1, h2⟩ := h
  exact ⟨r, by rw [runC_cond, hx]; exact h1, h2⟩

theorem e_block {id : Nat} {a : Code} (h : EC C a s (Blk id Q)) : EC C (.block id a) s Q := by
  obtain ⟨⟨e, s'⟩, h1, h2⟩ := h
  cases e with
  | exit id' =>
    simp only [Blk] at h2
    split at h2
    · rename_i he; exact ⟨_, by rw [runC_block, h1]; simp [he]; rfl, h2⟩
    · rename_i he; exact ⟨_, by rw [runC_block, h1]; simp [he]; rfl, h2⟩
  | normal => exact ⟨_, by rw [runC_block, h1]; rfl, h2⟩
  | ret => exact ⟨_, by rw [runC_block, h1]; rfl, h2⟩

theorem e_loop {a : Code} (h : EC C a s (Nx (fun s' => EC C (.loop a) s' Q) Q)) : EC C (.loop a) s Q := by
  obtain ⟨⟨e, s'⟩, h1, h2⟩ := h
  cases e with
  | normal => obtain ⟨r, h3, h4⟩ := h2; exact ⟨r, by rw [runC_loop, h1]; exact h3, h4⟩
  | exit id => exact ⟨_, by rw [runC_loop, h1]; rfl, h2⟩
  | ret => exact ⟨_, by rw [runC_loop, h1]; rfl, h2⟩

theorem e_skip (h : Q .normal s) : EC C .skip s Q := ⟨_, runC_skip .., h⟩
theorem e_ret (h : Q .ret s) : EC C .ret s Q := ⟨_, runC_ret .., h⟩
theorem e_exit {i : Nat} (h : Q (.exit i) s) : EC C (.exit i) s Q := ⟨_, runC_exit .., h⟩

theorem nx_n {b : St → Prop} (h : b s) : Nx b Q .normal s := h
theorem nx_r {b : St → Prop} (h : Q .ret s) : Nx b Q .ret s := h
theorem nx_e {b : St → Prop} {i : Nat} (h : Q (.exit i) s) : Nx b Q (.exit i) s := h
theorem blk_n {i : Nat} (h : Q .normal s) : Blk i Q .normal s := h
theorem blk_r {i : Nat} (h : Q .ret s) : Blk i Q .ret s := h
theorem blk_e {i : Nat} (h : Q .normal s) : Blk i Q (.exit i) s := by simp only [Blk, if_true]; exact h
theorem blk_o {i j : Nat} (hn : j ≠ i) (h : Q (.exit j) s) : Blk i Q (.exit j) s := by simp only [Blk, if_neg hn]; exact h

end
end Go.Jv
