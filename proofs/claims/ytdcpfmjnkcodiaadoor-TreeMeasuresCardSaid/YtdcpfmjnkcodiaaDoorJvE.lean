/- Each operation of the abstract machine is the real one's: what is laid, what is read. -/
import Derived.Test.YtdcpfmjnkcodiaaDoorJvD
import Derived.Laws.Append
import Derived.Laws.Tables
import Derived.Laws.Cells
import Derived.Laws.IdiomCopy
import Derived.Laws.NewBlocks
import Derived.Deep.MidRow
import Derived.Maps.AppendAt
namespace Go.Jv

def tmpsOk (n : Nat) (x : Operand) : Bool := match x with | .tmp t => decide (t < n) | .const v => v.oneCell' | _ => true
def operOk (n : Nat) (o : Oper) : Bool := (o.op.operands.all (tmpsOk n)) && (match o.dst with | some t => decide (t < n) | none => true)
def codeOk (n : Nat) : Code → Bool
  | .region _ ops _ => ops.all (operOk n)
  | .seq a b => codeOk n a && codeOk n b
  | .cond x a b => tmpsOk n x && codeOk n a && codeOk n b
  | .block _ a => codeOk n a
  | .loop a => codeOk n a
  | _ => true
def resOk (n : Nat) : ResultVar → Bool
  | .tmp t => decide (t < n)
  | .cell a _ => decide (a < n)
def funcOk (F : Func) : Bool := (match F.body with | some c => codeOk F.ntmps c | none => true) && F.results.all (resOk F.ntmps)

/-- a type's zero, cell by cell -/
def ZeroR (y : Ty) (z : Value) : Prop :=
  z.cells.size = y.size ∧ y.zero.length = y.size ∧ (∀ u ∈ z.cells, u.oneCell' = true) ∧
  (∀ (j : Nat) c, y.zero[j]? = some c → ∃ u, z.cells[j]? = some u ∧ ∀ S w B, AVR S w B c u) ∧ (isAgg y.desc = true → z = .agg z.cells) ∧ (isAgg y.desc = false → y.size = 1)

structure Valid (P : Program) (C : Cfg) : Prop where
  ty : ∀ t y, C.ty t = some y → P.underlying t = some y.desc ∧ ∃ i z, P.info? t = some i ∧ i.size = y.size ∧ i.bytes = y.bytes ∧ i.zero = some z ∧ ZeroR y z
  fn : ∀ f F, C.fn f = some F → P.funcs[f]? = some F ∧ funcOk F = true ∧ (F.name == "runtime.NumGoroutine") = false
  mixed : P.follows .mixedOrders = true
  fields : ∀ t y, C.ty t = some y → ∀ fs : Array Field, y.desc = .struct fs → ∀ f ∈ fs, (P.info? f.type).isSome = true
  eqs : ∀ t qs y, C.eqs t = some qs → C.ty t = some y → ∀ (fs : Array Field), y.desc = .struct fs → ∀ (xs ys : Array Value) (ds es : List Dat) (r : Bool) (w : World) (x y : Operand),
    eqAll qs ds es = some r → (∀ S w, VR S w (.agg ds) (.agg xs)) → (∀ S w, VR S w (.agg es) (.agg ys)) →
    (do eqGuard .eql t x y (.agg xs) (.agg ys); binOp .eql t (.agg xs) (.agg ys)).run P w = .ok (.bool r) w ∧
    (do eqGuard .neq t x y (.agg xs) (.agg ys); binOp .neq t (.agg xs) (.agg ys)).run P w = .ok (.bool (!r)) w

section
variable {P : Program} {C : Cfg} {S0 L0 : Nat → Prop} {w0 : World} {S : Nat → Prop} {B : Nat → Option Pl} {H : Hs} {F : Nat → Prop} {nx : Nat} {w : World}

theorem HR.lt {id : Nat} {h : Home} (hr : HR S w B id h) (hl : h.live = true) (p : Pl) (hp : B id = some p) : p.blk < w.heap.size := by
  cases hr with
  | own xs q arr e hq hb _ => rw [hq] at hp; cases hp; exact (Array.getElem?_eq_some_iff.1 hb).1
  | ownz z hq => rw [hq] at hp; cases hp
  | immz => cases hl
  | box cs q arr e hq hb _ _ => rw [hq] at hp; cases hp; exact (Array.getElem?_eq_some_iff.1 hb).1
  | imm => cases hl
  | immb => cases hl
  | dead => cases hl

theorem Mem.ext_new (hM : Mem C S0 L0 w0 S B H F w) (hF : F nx) (p : Pl) : Ext B (upd B nx (some p)) := by
  intro id q hq
  by_cases e : id = nx
  · subst e; rw [hM.freshB _ hF] at hq; cases hq
  · simp [upd, e, hq]

theorem same_alloc (hlt : ∀ b, S b → b < w.heap.size) (o : Obj) : Same S w (w.alloc o) := fun b hb => heap_alloc_old w o b (hlt b hb)

theorem Mem.weak (hM : Mem C S0 L0 w0 S B H F w) {F' : Nat → Prop} (h : ∀ id, F' id → F id) : Mem C S0 L0 w0 S B H F' w :=
  ⟨hM.homes, fun id hi => hM.fresh id (h id hi), fun id hi => hM.freshB id (h id hi), hM.inj, hM.off, hM.lt, hM.glob, hM.os, hM.tape, hM.output, hM.size, hM.keep, hM.sub, hM.liveIn, hM.sIn⟩

/-- a new block, a new home -/
theorem Mem.new (hM : Mem C S0 L0 w0 S B H F w) (hF : F nx) (o : Obj) (h : Home) (sz cap : Nat)
    (hh : HR S (w.alloc o) (upd B nx (some ⟨w.heap.size, sz, cap⟩)) nx h) :
    Mem C S0 L0 w0 S (upd B nx (some ⟨w.heap.size, sz, cap⟩)) (upd H nx h) (took F nx (nx + 1)) (w.alloc o) := by
  have hE := hM.ext_new hF ⟨w.heap.size, sz, cap⟩
  have hs := same_alloc (w := w) hM.lt o
  have hold : ∀ id, id ≠ nx → ∀ p, (H id).live = true → upd B nx (some ⟨w.heap.size, sz, cap⟩) id = some p → B id = some p ∧ p.blk < w.heap.size := by
    intro id hne p hl hp
    simp only [upd, hne, if_false] at hp
    exact ⟨hp, (hM.homes id).lt hl p hp⟩
  refine ⟨?_, ?_, ?_, ?_, ?_, ?_, ?_, hM.os, hM.tape, hM.output, ?_, ?_, hM.sub, ?_, hM.sIn⟩
  · intro id
    by_cases e : id = nx
    · subst e; simpa [upd] using hh
    · simp only [upd, e, if_false]
      exact (hM.homes id).mono (fun _ hb => hb) hs hE (fun _ hn => by simp [upd, e, hn]) (fun hl p hp => heap_alloc_old w o _ ((hM.homes id).lt hl p hp))
  · intro id hid
    have : id ≠ nx := by have := hid.2; omega
    simp [upd, this, hM.fresh id hid.1]
  · intro id hid
    have : id ≠ nx := by have := hid.2; omega
    simp [upd, this, hM.freshB id hid.1]
  · intro id id' p p' hl hl' hp hp' hne
    by_cases e : id = nx
    · subst e
      have e' : id' ≠ id := fun h => hne h.symm
      simp only [upd, e', if_false] at hl'
      obtain ⟨_, h2⟩ := hold id' e' p' hl' hp'
      simp only [upd, if_true] at hp
      cases hp
      simp only; omega
    · simp only [upd, e, if_false] at hl
      obtain ⟨h1, h2⟩ := hold id e p hl hp
      by_cases e' : id' = nx
      · subst e'
        simp only [upd, if_true] at hp'
        cases hp'
        simp only; omega
      · simp only [upd, e', if_false] at hl'
        exact hM.inj id id' p p' hl hl' h1 (hold id' e' p' hl' hp').1 hne
  · intro id p hl hp hS
    by_cases e : id = nx
    · subst e
      simp only [upd, if_true] at hp
      cases hp
      have := hM.lt _ hS
      simp only at this; omega
    · simp only [upd, e, if_false] at hl
      exact hM.off id p hl (hold id e p hl hp).1 hS
  · intro b hb
    have := hM.lt b hb
    simp; omega
  · intro g cs hg
    exact (hM.glob g cs hg).mono (fun _ h => h) hs
  · have := hM.size; simp; omega
  · intro b hb hl
    rw [heap_alloc_old w o b (by have := hM.size; omega)]
    exact hM.keep b hb hl
  · intro id p hl hp
    by_cases e : id = nx
    · subst e
      simp only [upd, if_true] at hp
      cases hp
      exact .inr hM.size
    · simp only [upd, e, if_false] at hl
      exact hM.liveIn id p hl (hold id e p hl hp).1

theorem Mem.drew (hM : Mem C S0 L0 w0 S B H F w) : Mem C S0 L0 w0 S B H F w.drew :=
  ⟨fun id => (hM.homes id).mono (fun _ h => h) (fun _ _ => rfl) (Ext.refl _) (fun _ hn => hn) (fun _ _ _ => rfl), hM.fresh, hM.freshB, hM.inj, hM.off, hM.lt,
   fun g cs hg => (hM.glob g cs hg).mono (fun _ h => h) (fun _ _ => rfl), hM.os, hM.tape, hM.output, hM.size, hM.keep, hM.sub, hM.liveIn, hM.sIn⟩

/-- a live home's block is written: the home is another one then -/
theorem Mem.write (hM : Mem C S0 L0 w0 S B H F w) {w' : World} (id : Nat) (p : Pl) (hl : (H id).live = true) (hp : B id = some p) (h : Home)
    (hos : w'.os = w.os) (htape : w'.tape = w.tape) (hout : w'.output = w.output) (hsz : w'.heap.size = w.heap.size)
    (hother : ∀ b, b ≠ p.blk → w'.heap[b]? = w.heap[b]?) (hlive : h.live = true) (hh : HR S w' B id h) :
    Mem C S0 L0 w0 S B (upd H id h) F w' := by
  have hsame : Same S w w' := fun b hb => hother b (fun e => hM.off id p hl hp (e ▸ hb))
  have hlv : ∀ j, (upd H id h j).live = true → (H j).live = true := by
    intro j hj
    by_cases e : j = id
    · subst e; exact hl
    · simpa [upd, e] using hj
  refine ⟨?_, ?_, hM.freshB, ?_, ?_, ?_, ?_, hos.trans hM.os, htape.trans hM.tape, hout.trans hM.output, ?_, ?_, hM.sub, ?_, hM.sIn⟩
  · intro j
    by_cases e : j = id
    · subst e; simpa [upd] using hh
    · simp only [upd, e, if_false]
      exact (hM.homes j).mono (fun _ hb => hb) hsame (Ext.refl _) (fun _ hn => hn) (fun hl' q hq => hother _ (hM.inj j id q p hl' hl hq hp e))
  · intro j hj
    have : j ≠ id := fun e => by
      subst e
      have := hM.fresh j hj
      rw [this] at hl; cases hl
    simp [upd, this, hM.fresh j hj]
  · intro i j q q' hi hj hq hq' hne
    exact hM.inj i j q q' (hlv i hi) (hlv j hj) hq hq' hne
  · intro j q hj hq
    exact hM.off j q (hlv j hj) hq
  · intro b hb; rw [hsz]; exact hM.lt b hb
  · intro g cs hg; exact (hM.glob g cs hg).mono (fun _ h => h) hsame
  · rw [hsz]; exact hM.size
  · intro b hb hnl
    rw [hother b (fun e => by
      rcases hM.liveIn id p hl hp with h1 | h1
      · exact hnl (e ▸ h1)
      · omega)]
    exact hM.keep b hb hnl
  · intro j q hj hq
    exact hM.liveIn j q (hlv j hj) hq

/-- a home is given up -/
theorem Mem.drop (hM : Mem C S0 L0 w0 S B H F w) (id : Nat) : Mem C S0 L0 w0 S B (upd H id .dead) F w := by
  have hlv : ∀ j, (upd H id .dead j).live = true → (H j).live = true ∧ upd H id .dead j = H j := by
    intro j hj
    by_cases e : j = id
    · subst e; simp [upd, Home.live] at hj
    · simp only [upd, e, if_false] at hj ⊢; exact ⟨hj, trivial⟩
  refine ⟨?_, ?_, hM.freshB, ?_, ?_, hM.lt, hM.glob, hM.os, hM.tape, hM.output, hM.size, hM.keep, hM.sub, ?_, hM.sIn⟩
  · intro j
    by_cases e : j = id
    · subst e; simp only [upd, if_true]; exact .dead
    · simp only [upd, e, if_false]; exact hM.homes j
  · intro j hj
    by_cases e : j = id
    · simp [upd, e]
    · simp [upd, e, hM.fresh j hj]
  · intro i j q q' hi hj hq hq' hne
    exact hM.inj i j q q' (hlv i hi).1 (hlv j hj).1 hq hq' hne
  · intro j q hj hq; exact hM.off j q (hlv j hj).1 hq
  · intro j q hj hq; exact hM.liveIn j q (hlv j hj).1 hq

/-- a slice's home stays as it is from now on -/
theorem Mem.fixOwn (hM : Mem C S0 L0 w0 S B H F w) (id : Nat) (p : Pl) (hl : (H id).live = true) (hp : B id = some p) (h : Home) (hnl : h.live = false)
    (hh : HR (fun b => S b ∨ b = p.blk) w B id h) : Mem C S0 L0 w0 (fun b => S b ∨ b = p.blk) B (upd H id h) F w := by
  have hlv : ∀ j, (upd H id h j).live = true → (H j).live = true ∧ j ≠ id := by
    intro j hj
    by_cases e : j = id
    · subst e; simp [upd, hnl] at hj
    · exact ⟨by simpa [upd, e] using hj, e⟩
  refine ⟨?_, ?_, hM.freshB, ?_, ?_, ?_, ?_, hM.os, hM.tape, hM.output, hM.size, hM.keep, fun b hb => .inl (hM.sub b hb), ?_, ?_⟩
  · intro j
    by_cases e : j = id
    · subst e; simpa [upd] using hh
    · simp only [upd, e, if_false]
      exact (hM.homes j).mono (fun _ hb => .inl hb) (fun _ _ => rfl) (Ext.refl _) (fun _ hn => hn) (fun _ _ _ => rfl)
  · intro j hj
    have : j ≠ id := fun e => by
      subst e
      have := hM.fresh j hj
      rw [this] at hl; cases hl
    simp [upd, this, hM.fresh j hj]
  · intro i j q q' hi hj hq hq' hne
    exact hM.inj i j q q' (hlv i hi).1 (hlv j hj).1 hq hq' hne
  · intro j q hj hq hS
    rcases hS with hS | hS
    · exact hM.off j q (hlv j hj).1 hq hS
    · exact hM.inj j id q p (hlv j hj).1 hl hq hp (hlv j hj).2 hS
  · intro b hb
    rcases hb with hb | hb
    · exact hM.lt b hb
    · subst hb; exact (hM.homes id).lt hl p hp
  · intro g cs hg; exact (hM.glob g cs hg).mono (fun _ h => .inl h) (fun _ _ => rfl)
  · intro j q hj hq; exact hM.liveIn j q (hlv j hj).1 hq
  · intro b hb
    rcases hb with hb | hb
    · exact hM.sIn b hb
    · subst hb
      exact .inr (hM.liveIn id p hl hp)

end
end Go.Jv
