/- What a tree, a value, a home of the abstract machine say of the real memory; they stay true while memory that they speak of stays. -/
import Derived.Test.YtdcpfmjnkcodiaaDoorJvC
import Derived.Laws.World
import Derived.Deep.Slices
namespace Go.Jv

inductive VR (S : Nat → Prop) (w : World) : Dat → Value → Prop where
  | int (k : IntKind) (n : Int) : VR S w (.int k n) (.int k n)
  | bool (b : Bool) : VR S w (.bool b) (.bool b)
  | str (s : ByteArray) : VR S w (.str s) (.string s)
  | cst (v : Value) (h : v.oneCell' = true) : VR S w (.cst v) v
  | nil : VR S w (.lst []) (.slice none 0 0)
  | emp (a : Addr) (cap : Nat) (hm : cap ≤ maxLen) : VR S w (.lst []) (.slice (some a) 0 cap)
  | lst (xs : List Dat) (b off cap sz : Nat) (us : Nat → Nat → Value) (hS : S b) (hl : xs.length ≤ cap) (hm : cap ≤ maxLen)
      (hz : ∀ (i : Nat) x, xs[i]? = some x → x.cells.length = sz)
      (hc : ∀ i j, i < xs.length → j < sz → w.cell? ⟨b, off + (i * sz + j), none⟩ = some (us i j))
      (ho : ∀ i j, i < xs.length → j < sz → (us i j).oneCell' = true)
      (hv : ∀ (i : Nat) x (j : Nat) c, xs[i]? = some x → x.cells[j]? = some c → VR S w c (us i j)) :
      VR S w (.lst xs) (.slice (some ⟨b, off, none⟩) xs.length cap)
  | ptr (cs : List Dat) (b off : Nat) (us : Nat → Value) (hS : S b)
      (hc : ∀ j, j < cs.length → w.cell? ⟨b, off + j, none⟩ = some (us j))
      (ho : ∀ j, j < cs.length → (us j).oneCell' = true)
      (hv : ∀ (j : Nat) c, cs[j]? = some c → VR S w c (us j)) : VR S w (.ptr cs) (.pointer (some ⟨b, off, none⟩))
  | agg (cs : List Dat) (vs : Array Value) (hl : cs.length = vs.size) (ho : ∀ u ∈ vs, u.oneCell' = true)
      (hv : ∀ (j : Nat) c u, cs[j]? = some c → vs[j]? = some u → VR S w c u) : VR S w (.agg cs) (.agg vs)
  | ifc (t : TypeId) (x : Dat) (v : Value) (hv : VR S w x v) : VR S w (.ifc t x) (.iface t v)
  | fn (f : FuncId) (cs : List Dat) (vs : Array Value) (hl : cs.length = vs.size)
      (hv : ∀ (j : Nat) c u, cs[j]? = some c → vs[j]? = some u → VR S w c u) : VR S w (.fn f cs) (.func (.func f) #[] vs)

/-- the blocks of S stand as they stood -/
def Same (S : Nat → Prop) (w w' : World) : Prop := ∀ b, S b → w'.heap[b]? = w.heap[b]?

theorem Same.cell {S : Nat → Prop} {w w' : World} (h : Same S w w') {b o : Nat} (hb : S b) : w'.cell? ⟨b, o, none⟩ = w.cell? ⟨b, o, none⟩ := by
  simp [World.cell?, h b hb]

theorem VR.mono {S S' : Nat → Prop} {w w' : World} {x : Dat} {v : Value} (h : VR S w x v) (hS : ∀ b, S b → S' b) (hw : Same S w w') : VR S' w' x v := by
  induction h with
  | int k n => exact .int k n
  | bool b => exact .bool b
  | str s => exact .str s
  | cst v h => exact .cst v h
  | nil => exact .nil
  | emp a cap hm => exact .emp a cap hm
  | lst xs b off cap sz us hb hl hm hz hc ho _ ih => exact .lst xs b off cap sz us (hS b hb) hl hm hz (fun i j hi hj => (hw.cell hb).trans (hc i j hi hj)) ho ih
  | ptr cs b off us hb hc ho _ ih => exact .ptr cs b off us (hS b hb) (fun j hj => (hw.cell hb).trans (hc j hj)) ho ih
  | agg cs vs hl ho _ ih => exact .agg cs vs hl ho ih
  | ifc t x v _ ih => exact .ifc t x v ih
  | fn f cs vs hl _ ih => exact .fn f cs vs hl ih

/-- where a home lies: its block, an element's cells, how many elements there is room for -/
structure Pl where
  blk : Nat
  sz : Nat
  cap : Nat

inductive AVR (S : Nat → Prop) (w : World) (B : Nat → Option Pl) : AV → Value → Prop where
  | d (x : Dat) (v : Value) (h : VR S w x v) : AVR S w B (.d x) v
  | nil : AVR S w B .nil (.slice none 0 0)
  | slz (id : Nat) : AVR S w B (.sl id 0 0) (.slice none 0 0)
  | undef : AVR S w B .undef Go.undef
  | sl (id lo hi : Nat) (p : Pl) (hp : B id = some p) (h1 : lo ≤ hi) (h2 : hi ≤ p.cap) (h3 : lo = 0 ∨ lo < p.cap) (hm : p.cap ≤ maxLen) :
      AVR S w B (.sl id lo hi) (.slice (some ⟨p.blk, lo * p.sz, none⟩) (hi - lo) (p.cap - lo))
  | sle (id lo off c : Nat) (p : Pl) (hp : B id = some p) (h : 0 < lo) (hm : c ≤ maxLen) : AVR S w B (.sl id lo lo) (.slice (some ⟨p.blk, off, none⟩) 0 c)
  | pt (id off : Nat) (p : Pl) (hp : B id = some p) : AVR S w B (.pt id off) (.pointer (some ⟨p.blk, off, none⟩))
  | pe (id i j : Nat) (p : Pl) (hp : B id = some p) : AVR S w B (.pe id i j) (.pointer (some ⟨p.blk, i * p.sz + j, none⟩))
  | agg (cs : List AV) (vs : Array Value) (hl : cs.length = vs.size) (ho : ∀ u ∈ vs, u.oneCell' = true)
      (hv : ∀ (j : Nat) c u, cs[j]? = some c → vs[j]? = some u → AVR S w B c u) : AVR S w B (.agg cs) (.agg vs)
  | tup (cs : List AV) (vs : Array Value) (hl : cs.length = vs.size)
      (hv : ∀ (j : Nat) c u, cs[j]? = some c → vs[j]? = some u → AVR S w B c u) : AVR S w B (.tup cs) (.tuple vs)
  | fn (f : FuncId) (cs : List AV) (vs : Array Value) (hl : cs.length = vs.size)
      (hv : ∀ (j : Nat) c u, cs[j]? = some c → vs[j]? = some u → AVR S w B c u) : AVR S w B (.fn f cs) (.func (.func f) #[] vs)
  | bad (v : Value) : AVR S w B .bad v

def Ext (B B' : Nat → Option Pl) : Prop := ∀ id p, B id = some p → B' id = some p
theorem Ext.refl (B : Nat → Option Pl) : Ext B B := fun _ _ h => h
theorem Ext.trans {B B' B'' : Nat → Option Pl} (h : Ext B B') (k : Ext B' B'') : Ext B B'' := fun id p hp => k id p (h id p hp)

theorem AVR.mono {S S' : Nat → Prop} {w w' : World} {B B' : Nat → Option Pl} {x : AV} {v : Value} (h : AVR S w B x v)
    (hS : ∀ b, S b → S' b) (hw : Same S w w') (hB : Ext B B') : AVR S' w' B' x v := by
  induction h with
  | d x v h => exact .d x v (h.mono hS hw)
  | nil => exact .nil
  | slz id => exact .slz id
  | undef => exact .undef
  | sl id lo hi p hp h1 h2 h3 hm => exact .sl id lo hi p (hB id p hp) h1 h2 h3 hm
  | sle id lo off c p hp h hm => exact .sle id lo off c p (hB id p hp) h hm
  | pt id off p hp => exact .pt id off p (hB id p hp)
  | pe id i j p hp => exact .pe id i j p (hB id p hp)
  | agg cs vs hl ho _ ih => exact .agg cs vs hl ho ih
  | tup cs vs hl _ ih => exact .tup cs vs hl ih
  | fn f cs vs hl _ ih => exact .fn f cs vs hl ih
  | bad v => exact .bad v

/-- the cells of elements in a block -/
def RowR (S : Nat → Prop) (w : World) (p : Pl) (arr : Array Value) (xs : List Dat) : Prop :=
  arr.size = p.cap * p.sz ∧ xs.length ≤ p.cap ∧ p.cap ≤ maxLen ∧ (∀ (i : Nat) x, xs[i]? = some x → x.cells.length = p.sz) ∧
  ∀ (i : Nat) x (j : Nat) c, xs[i]? = some x → x.cells[j]? = some c → ∃ u, arr[i * p.sz + j]? = some u ∧ u.oneCell' = true ∧ VR S w c u

inductive HR (S : Nat → Prop) (w : World) (B : Nat → Option Pl) (id : Nat) : Home → Prop where
  | own (xs : List Dat) (p : Pl) (arr : Array Value) (e : TypeId) (hp : B id = some p) (hb : w.heap[p.blk]? = some (.cells arr e (0, 0))) (hr : RowR S w p arr xs) : HR S w B id (.own ⟨e, p.sz⟩ xs)
  | ownz (z : Row) (hp : B id = none) : HR S w B id (.own z [])
  | box (cs : List AV) (p : Pl) (arr : Array Value) (e : TypeId) (hp : B id = some p) (hb : w.heap[p.blk]? = some (.cells arr e (0, 0))) (hl : arr.size = cs.length)
      (hv : ∀ (j : Nat) c, cs[j]? = some c → ∃ u, arr[j]? = some u ∧ u.oneCell' = true ∧ AVR S w B c u) : HR S w B id (.box cs)
  | imm (xs : List Dat) (p : Pl) (arr : Array Value) (e : TypeId) (fr : Nat × Nat) (hp : B id = some p) (hS : S p.blk) (hb : w.heap[p.blk]? = some (.cells arr e fr)) (hr : RowR S w p arr xs) : HR S w B id (.imm ⟨e, p.sz⟩ xs)
  | immz (z : Row) (hp : B id = none) : HR S w B id (.imm z [])
  | immb (cs : List Dat) (p : Pl) (arr : Array Value) (e : TypeId) (fr : Nat × Nat) (hp : B id = some p) (hS : S p.blk) (hb : w.heap[p.blk]? = some (.cells arr e fr)) (hl : arr.size = cs.length)
      (hv : ∀ (j : Nat) c, cs[j]? = some c → ∃ u, arr[j]? = some u ∧ u.oneCell' = true ∧ VR S w c u) : HR S w B id (.immb cs)
  | dead : HR S w B id .dead

def Home.live : Home → Bool
  | .own _ _ | .box _ => true
  | _ => false

theorem RowR.mono {S S' : Nat → Prop} {w w' : World} {p : Pl} {arr : Array Value} {xs : List Dat} (h : RowR S w p arr xs) (hS : ∀ b, S b → S' b) (hw : Same S w w') : RowR S' w' p arr xs :=
  ⟨h.1, h.2.1, h.2.2.1, h.2.2.2.1, fun i x j c hi hj => let ⟨u, h1, h2, h3⟩ := h.2.2.2.2 i x j c hi hj; ⟨u, h1, h2, h3.mono hS hw⟩⟩

/-- a home stays, if its own block and those of S stay -/
theorem HR.mono {S S' : Nat → Prop} {w w' : World} {B B' : Nat → Option Pl} {id : Nat} {h : Home} (hr : HR S w B id h)
    (hS : ∀ b, S b → S' b) (hw : Same S w w') (hB : Ext B B') (hz : h ≠ .dead → B id = none → B' id = none) (hl : h.live = true → ∀ p, B id = some p → w'.heap[p.blk]? = w.heap[p.blk]?) : HR S' w' B' id h := by
  cases hr with
  | own xs p arr e hp hb hr => exact .own xs p arr e (hB id p hp) ((hl rfl p hp).trans hb) (hr.mono hS hw)
  | ownz z hp => exact .ownz z (hz (by simp) hp)
  | immz z hp => exact .immz z (hz (by simp) hp)
  | box cs p arr e hp hb hsz hv => exact .box cs p arr e (hB id p hp) ((hl rfl p hp).trans hb) hsz (fun j c hj => let ⟨u, h1, h2, h3⟩ := hv j c hj; ⟨u, h1, h2, h3.mono hS hw hB⟩)
  | imm xs p arr e fr hp hs hb hr => exact .imm xs p arr e fr (hB id p hp) (hS _ hs) ((hw _ hs).trans hb) (hr.mono hS hw)
  | immb cs p arr e fr hp hs hb hsz hv => exact .immb cs p arr e fr (hB id p hp) (hS _ hs) ((hw _ hs).trans hb) hsz (fun j c hj => let ⟨u, h1, h2, h3⟩ := hv j c hj; ⟨u, h1, h2, h3.mono hS hw⟩)
  | dead => exact .dead

/-- the free numbers that are left when those from nx up to n1 are taken -/
def took (F : Nat → Prop) (nx n1 : Nat) (id : Nat) : Prop := F id ∧ (id < nx ∨ n1 ≤ id)

/-- The homes and the memory. F: numbers that are free. S: what stays as it is; L0, w0: what was live, and the memory, when the call began. -/
structure Mem (C : Cfg) (S0 L0 : Nat → Prop) (w0 : World) (S : Nat → Prop) (B : Nat → Option Pl) (H : Hs) (F : Nat → Prop) (w : World) : Prop where
  homes : ∀ id, HR S w B id (H id)
  fresh : ∀ id, F id → H id = .dead
  freshB : ∀ id, F id → B id = none
  inj : ∀ id id' p p', (H id).live = true → (H id').live = true → B id = some p → B id' = some p' → id ≠ id' → p.blk ≠ p'.blk
  off : ∀ id p, (H id).live = true → B id = some p → ¬ S p.blk
  lt : ∀ b, S b → b < w.heap.size
  glob : ∀ g cs, C.glob g = some cs → VR S w (.ptr cs) (.pointer (some ⟨g, 0, none⟩))
  os : w.os = w0.os
  tape : w.tape = w0.tape
  output : w.output = w0.output
  size : w0.heap.size ≤ w.heap.size
  keep : ∀ b, b < w0.heap.size → ¬ L0 b → w.heap[b]? = w0.heap[b]?
  sub : ∀ b, S0 b → S b
  liveIn : ∀ id p, (H id).live = true → B id = some p → L0 p.blk ∨ w0.heap.size ≤ p.blk
  sIn : ∀ b, S b → S0 b ∨ L0 b ∨ w0.heap.size ≤ b

def RegsR (S : Nat → Prop) (w : World) (B : Nat → Option Pl) (regs : Nat → AV) (tmps : Array Value) : Prop :=
  ∀ i, i < tmps.size → AVR S w B (regs i) (tmps.getD i Go.undef)

theorem RegsR.mono {S S' : Nat → Prop} {w w' : World} {B B' : Nat → Option Pl} {regs : Nat → AV} {tmps : Array Value} (h : RegsR S w B regs tmps)
    (hS : ∀ b, S b → S' b) (hw : Same S w w') (hB : Ext B B') : RegsR S' w' B' regs tmps := fun i hi => (h i hi).mono hS hw hB

theorem RegsR.put {S : Nat → Prop} {w : World} {B : Nat → Option Pl} {regs : Nat → AV} {a : Act} (h : RegsR S w B regs a.tmps) (dst : Option Tmp) {x : AV} {v : Value} (hv : AVR S w B x v) :
    RegsR S w B (putR regs dst x) (a.put dst v).tmps := by
  cases dst with
  | none => exact h
  | some t =>
    intro i hi
    simp only [Act.put, Array.size_setIfInBounds] at hi
    simp only [putR, upd, Act.put]
    by_cases e : i = t
    · subst e
      simpa [hi] using hv
    · have : (a.tmps.setIfInBounds t v).getD i Go.undef = a.tmps.getD i Go.undef := by
        simp [Array.getD_eq_getD_getElem?, Array.getElem?_setIfInBounds_ne (Ne.symm e)]
      rw [this]
      simpa [e] using h i hi

end Go.Jv
