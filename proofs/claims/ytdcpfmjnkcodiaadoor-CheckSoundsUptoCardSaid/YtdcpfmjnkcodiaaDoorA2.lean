/- Each operation of the abstract machine is the real one's: what is laid, what is read. -/
import Derived.Test.YtdcpfmjnkcodiaaDoorA1
import Derived.Laws.Append
import Derived.Laws.Tables
import Derived.Laws.Cells
import Derived.Laws.IdiomCopy
import Derived.Laws.NewBlocks
import Derived.Deep.MidRow
import Derived.Maps.AppendAt
namespace Go.Jv
def tmpsOk (n : Nat) (x : Operand) : Bool := match x with | .tmp t => decide (t < n) | .const v => v.oneCell' | _ => true
def operOk (n : Nat) (o : Oper) : Bool := (o.op.operands.all (tmpsOk n)) && (match o.dst with | some t => decide (t < n) | none => true)
def codeOk (n : Nat) : Code → Bool
 | .region _ ops _ => ops.all (operOk n)
 | .seq a b => codeOk n a && codeOk n b
 | .cond x a b => tmpsOk n x && codeOk n a && codeOk n b
 | .block _ a => codeOk n a
 | .loop a => codeOk n a
 | _ => true
def resOk (n : Nat) : ResultVar → Bool
 | .tmp t => decide (t < n)
 | .cell a _ => decide (a < n)
def funcOk (F : Func) : Bool := (match F.body with | some c => codeOk F.ntmps c | none => true) && F.results.all (resOk F.ntmps)
def ZeroR (y : Ty) (z : Value) : Prop :=
 z.cells.size = y.size ∧ y.zero.length = y.size ∧ (∀ u ∈ z.cells, u.oneCell' = true) ∧
 (∀ (j : Nat) c, y.zero[j]? = some c → ∃ u, z.cells[j]? = some u ∧ ∀ S w B, AVR S w B c u) ∧ (isAgg y.desc = true → z = .agg z.cells) ∧ (isAgg y.desc = false → y.size = 1 ∧ ∀ cs, z ≠ .agg cs)
structure Valid (P : Program) (C : Cfg) : Prop where
 ty : ∀ t y, C.ty t = some y → P.underlying t = some y.desc ∧ ∃ i z, P.info? t = some i ∧ i.size = y.size ∧ i.bytes = y.bytes ∧ i.zero = some z ∧ ZeroR y z
 fn : ∀ f F, C.fn f = some F → P.funcs[f]? = some F ∧ funcOk F = true ∧ (F.name == "runtime.NumGoroutine") = false
 mixed : P.follows .mixedOrders = true
 fields : ∀ t y, C.ty t = some y → ∀ fs : Array Field, y.desc = .struct fs → ∀ f ∈ fs, (P.info? f.type).isSome = true
 eqs : ∀ t qs y, C.eqs t = some qs → C.ty t = some y → isAgg y.desc = true → ∀ (xs ys : Array Value) (ds es : List Dat) (r : Bool) (w : World) (x y : Operand),
  eqAll qs ds es = some r → (∀ S w, VR S w (.agg ds) (.agg xs)) → (∀ S w, VR S w (.agg es) (.agg ys)) →
  (do eqGuard .eql t x y (.agg xs) (.agg ys); binOp .eql t (.agg xs) (.agg ys)).run P w = .ok (.bool r) w ∧
  (do eqGuard .neq t x y (.agg xs) (.agg ys); binOp .neq t (.agg xs) (.agg ys)).run P w = .ok (.bool (!r)) w
section
variable {P : Program} {C : Cfg} {S0 : Nat → Prop} {L0 : Lz} {w0 : World} {S : Nat → Prop} {B : Nat → Option Pl} {H : Hs} {F : Nat → Prop} {nx : Nat} {w : World}
theorem HR.lt {id : Nat} {h : Home} (hr : HR S w B id h) (hl : h.live = true) (p : Pl) (hp : B id = some p) : p.blk < w.heap.size := by
 cases hr with
 | own xs q arr e hq hb _ => rw [hq] at hp; cases hp; exact (Array.getElem?_eq_some_iff.1 hb).1
 | ownz z hq => rw [hq] at hp; cases hp
 | immz => cases hl
 | box cs q arr e hq hb _ _ => rw [hq] at hp; cases hp; exact (Array.getElem?_eq_some_iff.1 hb).1
 | imm => cases hl
 | immb => cases hl
 | map es q arr clock hq hb _ _ => rw [hq] at hp; cases hp; exact (Array.getElem?_eq_some_iff.1 hb).1
 | dead => cases hl
theorem Mem.ext_new (hM : Mem C S0 L0 w0 S B H F w) (hF : F nx) (p : Pl) : Ext B (upd B nx (some p)) := by
 intro id q hq
 by_cases e : id = nx
 ·subst e; rw [hM.freshB _ hF] at hq; cases hq
 ·simp [upd, e, hq]
theorem same_alloc (hlt : ∀ b, S b → b < w.heap.size) (o : Obj) : Same S w (w.alloc o) := fun b hb => heap_alloc_old w o b (hlt b hb)
theorem Mem.weak (hM : Mem C S0 L0 w0 S B H F w) {F' : Nat → Prop} (h : ∀ id, F' id → F id) : Mem C S0 L0 w0 S B H F' w :=
 ⟨hM.homes, fun id hi => hM.fresh id (h id hi), fun id hi => hM.freshB id (h id hi), hM.inj, hM.off, hM.lt, hM.glob, hM.os, hM.tape, hM.output, hM.size, hM.keep, hM.sub, hM.liveIn, hM.sIn, hM.b0, fun id hi => hM.b0F id (h id hi)⟩
theorem Mem.new (hM : Mem C S0 L0 w0 S B H F w) (hF : F nx) (o : Obj) (h : Home) (sz cap : Nat)
  (hh : HR S (w.alloc o) (upd B nx (some ⟨w.heap.size, sz, cap⟩)) nx h) :
  Mem C S0 L0 w0 S (upd B nx (some ⟨w.heap.size, sz, cap⟩)) (upd H nx h) (took F nx (nx + 1)) (w.alloc o) := by
 have hE := hM.ext_new hF ⟨w.heap.size, sz, cap⟩
 have hs := same_alloc (w := w) hM.lt o
 have hold : ∀ id, id ≠ nx → ∀ p, (H id).live = true → upd B nx (some ⟨w.heap.size, sz, cap⟩) id = some p → B id = some p ∧ p.blk < w.heap.size := by
  intro id hne p hl hp
  simp only [upd, hne, if_false] at hp
  exact ⟨hp, (hM.homes id).lt hl p hp⟩
 refine ⟨?_, ?_, ?_, ?_, ?_, ?_, ?_, hM.os, hM.tape, hM.output, ?_, ?_, hM.sub, ?_, hM.sIn, ?_, fun id hid => hM.b0F id hid.1⟩
 ·intro id
  by_cases e : id = nx
  ·subst e; simpa [upd] using hh
  ·simp only [upd, e, if_false]
   exact (hM.homes id).mono (fun _ hb => hb) hs hE (fun _ hn => by simp [upd, e, hn]) (fun hl p hp => heap_alloc_old w o _ ((hM.homes id).lt hl p hp))
 ·intro id hid
  have : id ≠ nx := by have := hid.2; omega
  simp [upd, this, hM.fresh id hid.1]
 ·intro id hid
  have : id ≠ nx := by have := hid.2; omega
  simp [upd, this, hM.freshB id hid.1]
 ·intro id id' p p' hl hl' hp hp' hne
  by_cases e : id = nx
  ·subst e
   have e' : id' ≠ id := fun h => hne h.symm
   simp only [upd, e', if_false] at hl'
   obtain ⟨_, h2⟩ := hold id' e' p' hl' hp'
   simp only [upd, if_true] at hp
   cases hp
   simp only; omega
  ·simp only [upd, e, if_false] at hl
   obtain ⟨h1, h2⟩ := hold id e p hl hp
   by_cases e' : id' = nx
   ·subst e'
    simp only [upd, if_true] at hp'
    cases hp'
    simp only; omega
   ·simp only [upd, e', if_false] at hl'
    exact hM.inj id id' p p' hl hl' h1 (hold id' e' p' hl' hp').1 hne
 ·intro id p hl hp hS
  by_cases e : id = nx
  ·subst e
   simp only [upd, if_true] at hp
   cases hp
   have := hM.lt _ hS
   simp only at this; omega
  ·simp only [upd, e, if_false] at hl
   exact hM.off id p hl (hold id e p hl hp).1 hS
 ·intro b hb
  have := hM.lt b hb
  simp; omega
 ·intro g cs hg
  exact (hM.glob g cs hg).mono (fun _ h => h) hs
 ·have := hM.size; simp; omega
 ·intro b hb hl
  rw [heap_alloc_old w o b (by have := hM.size; omega)]
  exact hM.keep b hb hl
 ·intro id p hl hp
  by_cases e : id = nx
  ·subst e
   simp only [upd, if_true] at hp
   cases hp
   exact .inr hM.size
  ·simp only [upd, e, if_false] at hl
   exact hM.liveIn id p hl (hold id e p hl hp).1
 ·intro id q hq
  have : id ≠ nx := fun e => by rw [e, hM.b0F _ hF] at hq; cases hq
  simp only [upd, this, if_false]
  exact hM.b0 id q hq
theorem Mem.drew (hM : Mem C S0 L0 w0 S B H F w) : Mem C S0 L0 w0 S B H F w.drew :=
 ⟨fun id => (hM.homes id).mono (fun _ h => h) (fun _ _ => rfl) (Ext.refl _) (fun _ hn => hn) (fun _ _ _ => rfl), hM.fresh, hM.freshB, hM.inj, hM.off, hM.lt,
  fun g cs hg => (hM.glob g cs hg).mono (fun _ h => h) (fun _ _ => rfl), hM.os, hM.tape, hM.output, hM.size, hM.keep, hM.sub, hM.liveIn, hM.sIn, hM.b0, hM.b0F⟩
theorem Mem.write (hM : Mem C S0 L0 w0 S B H F w) {w' : World} (id : Nat) (p : Pl) (hl : (H id).live = true) (hp : B id = some p) (h : Home)
  (hos : w'.os = w.os) (htape : w'.tape = w.tape) (hout : w'.output = w.output) (hsz : w'.heap.size = w.heap.size)
  (hother : ∀ b, b ≠ p.blk → w'.heap[b]? = w.heap[b]?) (hlive : h.live = true) (hh : HR S w' B id h) :
  Mem C S0 L0 w0 S B (upd H id h) F w' := by
 have hsame : Same S w w' := fun b hb => hother b (fun e => hM.off id p hl hp (e ▸ hb))
 have hlv : ∀ j, (upd H id h j).live = true → (H j).live = true := by
  intro j hj
  by_cases e : j = id
  ·subst e; exact hl
  ·simpa [upd, e] using hj
 refine ⟨?_, ?_, hM.freshB, ?_, ?_, ?_, ?_, hos.trans hM.os, htape.trans hM.tape, hout.trans hM.output, ?_, ?_, hM.sub, ?_, hM.sIn, hM.b0, hM.b0F⟩
 ·intro j
  by_cases e : j = id
  ·subst e; simpa [upd] using hh
  ·simp only [upd, e, if_false]
   exact (hM.homes j).mono (fun _ hb => hb) hsame (Ext.refl _) (fun _ hn => hn) (fun hl' q hq => hother _ (hM.inj j id q p hl' hl hq hp e))
 ·intro j hj
  have : j ≠ id := fun e => by
   subst e
   have := hM.fresh j hj
   rw [this] at hl; cases hl
  simp [upd, this, hM.fresh j hj]
 ·intro i j q q' hi hj hq hq' hne
  exact hM.inj i j q q' (hlv i hi) (hlv j hj) hq hq' hne
 ·intro j q hj hq
  exact hM.off j q (hlv j hj) hq
 ·intro b hb; rw [hsz]; exact hM.lt b hb
 ·intro g cs hg; exact (hM.glob g cs hg).mono (fun _ h => h) hsame
 ·rw [hsz]; exact hM.size
 ·intro b hb hnl
  rw [hother b (fun e => by
   rcases hM.liveIn id p hl hp with h1 | h1
   ·exact hnl (e ▸ h1)
   ·omega)]
  exact hM.keep b hb hnl
 ·intro j q hj hq
  exact hM.liveIn j q (hlv j hj) hq
theorem Mem.drop (hM : Mem C S0 L0 w0 S B H F w) (id : Nat) : Mem C S0 L0 w0 S B (upd H id .dead) F w := by
 have hlv : ∀ j, (upd H id .dead j).live = true → (H j).live = true ∧ upd H id .dead j = H j := by
  intro j hj
  by_cases e : j = id
  ·subst e; simp [upd, Home.live] at hj
  ·simp only [upd, e, if_false] at hj ⊢; exact ⟨hj, trivial⟩
 refine ⟨?_, ?_, hM.freshB, ?_, ?_, hM.lt, hM.glob, hM.os, hM.tape, hM.output, hM.size, hM.keep, hM.sub, ?_, hM.sIn, hM.b0, hM.b0F⟩
 ·intro j
  by_cases e : j = id
  ·subst e; simp only [upd, if_true]; exact .dead
  ·simp only [upd, e, if_false]; exact hM.homes j
 ·intro j hj
  by_cases e : j = id
  ·simp [upd, e]
  ·simp [upd, e, hM.fresh j hj]
 ·intro i j q q' hi hj hq hq' hne
  exact hM.inj i j q q' (hlv i hi).1 (hlv j hj).1 hq hq' hne
 ·intro j q hj hq; exact hM.off j q (hlv j hj).1 hq
 ·intro j q hj hq; exact hM.liveIn j q (hlv j hj).1 hq
theorem Mem.fixOwn (hM : Mem C S0 L0 w0 S B H F w) (id : Nat) (p : Pl) (hl : (H id).live = true) (hp : B id = some p) (h : Home) (hnl : h.live = false)
  (hh : HR (fun b => S b ∨ b = p.blk) w B id h) : Mem C S0 L0 w0 (fun b => S b ∨ b = p.blk) B (upd H id h) F w := by
 have hlv : ∀ j, (upd H id h j).live = true → (H j).live = true ∧ j ≠ id := by
  intro j hj
  by_cases e : j = id
  ·subst e; simp [upd, hnl] at hj
  ·exact ⟨by simpa [upd, e] using hj, e⟩
 refine ⟨?_, ?_, hM.freshB, ?_, ?_, ?_, ?_, hM.os, hM.tape, hM.output, hM.size, hM.keep, fun b hb => .inl (hM.sub b hb), ?_, ?_, hM.b0, hM.b0F⟩
 ·intro j
  by_cases e : j = id
  ·subst e; simpa [upd] using hh
  ·simp only [upd, e, if_false]
   exact (hM.homes j).mono (fun _ hb => .inl hb) (fun _ _ => rfl) (Ext.refl _) (fun _ hn => hn) (fun _ _ _ => rfl)
 ·intro j hj
  have : j ≠ id := fun e => by
   subst e
   have := hM.fresh j hj
   rw [this] at hl; cases hl
  simp [upd, this, hM.fresh j hj]
 ·intro i j q q' hi hj hq hq' hne
  exact hM.inj i j q q' (hlv i hi).1 (hlv j hj).1 hq hq' hne
 ·intro j q hj hq hS
  rcases hS with hS | hS
  ·exact hM.off j q (hlv j hj).1 hq hS
  ·exact hM.inj j id q p (hlv j hj).1 hl hq hp (hlv j hj).2 hS
 ·intro b hb
  rcases hb with hb | hb
  ·exact hM.lt b hb
  ·subst hb; exact (hM.homes id).lt hl p hp
 ·intro g cs hg; exact (hM.glob g cs hg).mono (fun _ h => .inl h) (fun _ _ => rfl)
 ·intro j q hj hq; exact hM.liveIn j q (hlv j hj).1 hq
 ·intro b hb
  rcases hb with hb | hb
  ·exact hM.sIn b hb
  ·subst hb
   exact .inr (hM.liveIn id p hl hp)
end
end Go.Jv
namespace Go.Jv
def mkV (g : Bool) (us : List Value) : Option Value :=
 if g then some (.agg us.toArray) else match us with | [u] => some u | _ => none
def CellsD (S : Nat → Prop) (w : World) (cs : List Dat) (us : List Value) : Prop :=
 cs.length = us.length ∧ ∀ (j : Nat) c u, cs[j]? = some c → us[j]? = some u → u.oneCell' = true ∧ VR S w c u
def CellsA (S : Nat → Prop) (w : World) (B : Nat → Option Pl) (cs : List AV) (us : List Value) : Prop :=
 cs.length = us.length ∧ ∀ (j : Nat) c u, cs[j]? = some c → us[j]? = some u → u.oneCell' = true ∧ AVR S w B c u
section
variable {P : Program} {C : Cfg} {S0 : Nat → Prop} {L0 : Lz} {w0 : World} {S : Nat → Prop} {B : Nat → Option Pl} {H : Hs} {F : Nat → Prop} {nx : Nat} {w : World}
theorem isRow_eq (d : TypeDesc) : d.isRow = isAgg d := by cases d <;> rfl
theorem oneCell_mem {us : List Value} (h : ∀ (j : Nat) u, us[j]? = some u → u.oneCell' = true) : ∀ u ∈ us, u.oneCell' = true := by
 intro u hu
 obtain ⟨j, hj⟩ := List.mem_iff_getElem?.1 hu
 exact h j u hj
theorem CellsD.one {cs : List Dat} {us : List Value} (h : CellsD S w cs us) : ∀ u ∈ us, u.oneCell' = true := by
 refine oneCell_mem fun j u hu => ?_
 have hj : j < cs.length := by rw [h.1]; exact (List.getElem?_eq_some_iff.1 hu).1
 exact (h.2 j _ u (List.getElem?_eq_getElem hj) hu).1
theorem CellsA.one {cs : List AV} {us : List Value} (h : CellsA S w B cs us) : ∀ u ∈ us, u.oneCell' = true := by
 refine oneCell_mem fun j u hu => ?_
 have hj : j < cs.length := by rw [h.1]; exact (List.getElem?_eq_some_iff.1 hu).1
 exact (h.2 j _ u (List.getElem?_eq_getElem hj) hu).1
theorem CellsD.cut {cs : List Dat} {us : List Value} (h : CellsD S w cs us) {off n : Nat} {ds : List Dat} (hc : cutD cs off n = some ds) : CellsD S w ds ((us.drop off).take n) ∧ ds.length = n ∧ off + n ≤ cs.length := by
 unfold cutD at hc
 split at hc
 ·rename_i hle
  cases hc
  have hl := h.1
  refine ⟨⟨by simp [hl], fun j c u hj hu => ?_⟩, by simp; omega, hle⟩
  rw [List.getElem?_take] at hj hu
  split at hj
  ·rw [List.getElem?_drop] at hj
   simp only [List.getElem?_drop] at hu
   rename_i hjn
   simp only [hjn, if_true] at hu
   exact h.2 (off + j) c u hj hu
  ·cases hj
 ·cases hc
theorem CellsA.cut {cs : List AV} {us : List Value} (h : CellsA S w B cs us) {off n : Nat} {ds : List AV} (hc : cutA cs off n = some ds) : CellsA S w B ds ((us.drop off).take n) ∧ ds.length = n ∧ off + n ≤ cs.length := by
 unfold cutA at hc
 split at hc
 ·rename_i hle
  cases hc
  have hl := h.1
  refine ⟨⟨by simp [hl], fun j c u hj hu => ?_⟩, by simp; omega, hle⟩
  rw [List.getElem?_take] at hj hu
  split at hj
  ·rw [List.getElem?_drop] at hj
   simp only [List.getElem?_drop] at hu
   rename_i hjn
   simp only [hjn, if_true] at hu
   exact h.2 (off + j) c u hj hu
  ·cases hj
 ·cases hc
theorem CellsD.mk {cs : List Dat} {us : List Value} (h : CellsD S w cs us) {g : Bool} {x : Dat} (hx : mkD g cs = some x) : ∃ v, mkV g us = some v ∧ VR S w x v := by
 cases g with
 | true =>
  simp only [mkD, if_true] at hx
  cases hx
  refine ⟨_, by simp only [mkV, if_true], .agg cs us.toArray (by simpa using h.1) (fun u hu => h.one u (by simpa using hu)) (fun j c u hj hu => (h.2 j c u hj (by simpa using hu)).2)⟩
 | false =>
  simp only [mkD] at hx
  match cs, us, h, hx with
  | [c], [u], h, hx =>
   have e : c = x := by simpa using hx
   subst e
   exact ⟨u, by simp [mkV], (h.2 0 c u rfl rfl).2⟩
  | [c], [], h, _ => exact absurd h.1 (by simp)
  | [c], _ :: _ :: _, h, _ => exact absurd h.1 (by simp)
  | [], _, _, hx => simp at hx
  | _ :: _ :: _, _, _, hx => simp at hx
theorem CellsA.mk {cs : List AV} {us : List Value} (h : CellsA S w B cs us) {g : Bool} {x : AV} (hx : mkA g cs = some x) : ∃ v, mkV g us = some v ∧ AVR S w B x v := by
 cases g with
 | true =>
  simp only [mkA, if_true] at hx
  cases hx
  refine ⟨_, by simp only [mkV, if_true], .agg cs us.toArray (by simpa using h.1) (fun u hu => h.one u (by simpa using hu)) (fun j c u hj hu => (h.2 j c u hj (by simpa using hu)).2)⟩
 | false =>
  simp only [mkA] at hx
  match cs, us, h, hx with
  | [c], [u], h, hx =>
   have e : c = x := by simpa using hx
   subst e
   exact ⟨u, by simp [mkV], (h.2 0 c u rfl rfl).2⟩
  | [c], [], h, _ => exact absurd h.1 (by simp)
  | [c], _ :: _ :: _, h, _ => exact absurd h.1 (by simp)
  | [], _, _, hx => simp at hx
  | _ :: _ :: _, _, _, hx => simp at hx
theorem run_load_cells (V : Valid P C) {t : TypeId} {y : Ty} (hy : C.ty t = some y) {b o : Nat} {us : List Value} (hr : w.rangeAt b o us) (hl : us.length = y.size) {v : Value}
  (hv : mkV (isAgg y.desc) us = some v) : (Instr.loadAt t (.pointer (some ⟨b, o, none⟩))).run P w = .ok v w := by
 obtain ⟨hu, i, z, hi, hsz, _⟩ := V.ty t y hy
 cases hg : isAgg y.desc with
 | true =>
  rw [hg] at hv
  simp only [mkV, if_true] at hv
  cases hv
  exact run_loadAt_mid w b o t us y.desc hr hu (by rw [isRow_eq]; exact hg) (by rw [hi]; simp [hsz, hl])
 | false =>
  rw [hg] at hv
  simp only [mkV] at hv
  match us, hv, hr with
  | [u], hv, hr =>
   have e : u = v := by simpa using hv
   subst e
   have hc : w.cell? ⟨b, o, none⟩ = some u := by simpa using hr 0 u rfl
   have ha : (Go.isAgg t).run P w = .ok false w := by
    unfold Go.isAgg
    rw [Sem.run_bind, run_underlying hu w]
    cases hd : y.desc <;> simp_all [isAgg]
   simp [Instr.loadAt, Instr.sureAddr, loadVar, Sem.run_bind, ha, hc]
  | [], hv, _ => simp at hv
  | _ :: _ :: _, hv, _ => simp at hv
theorem range_of_block {b : Nat} {arr : Array Value} {e : TypeId} {fr : Nat × Nat} (hb : w.heap[b]? = some (.cells arr e fr)) (o n : Nat) : w.rangeAt b o ((arr.toList.drop o).take n) := by
 intro j v hv
 rw [List.getElem?_take] at hv
 split at hv
 ·rw [List.getElem?_drop] at hv
  have : arr[o + j]? = some v := by simpa using hv
  simp [World.cell?, hb, this]
 ·cases hv
theorem HR.boxCells {id : Nat} {cs : List AV} (h : HR S w B id (.box cs)) : ∃ p arr e, B id = some p ∧ w.heap[p.blk]? = some (.cells arr e (0, 0)) ∧ CellsA S w B cs arr.toList := by
 cases h with
 | box _ p arr e hp hb hl hv =>
  refine ⟨p, arr, e, hp, hb, by simp [hl], fun j c u hj hu => ?_⟩
  obtain ⟨u', h1, h2, h3⟩ := hv j c hj
  have : u' = u := by
   have hu' : arr[j]? = some u := by simpa using hu
   rw [h1] at hu'; exact Option.some.inj hu'
  subst this
  exact ⟨h2, h3⟩
theorem HR.immbCells {id : Nat} {cs : List Dat} (h : HR S w B id (.immb cs)) : ∃ p arr e fr, B id = some p ∧ S p.blk ∧ w.heap[p.blk]? = some (.cells arr e fr) ∧ CellsD S w cs arr.toList := by
 cases h with
 | immb _ p arr e fr hp hS hb hl hv =>
  refine ⟨p, arr, e, fr, hp, hS, hb, by simp [hl], fun j c u hj hu => ?_⟩
  obtain ⟨u', h1, h2, h3⟩ := hv j c hj
  have : u' = u := by
   have hu' : arr[j]? = some u := by simpa using hu
   rw [h1] at hu'; exact Option.some.inj hu'
  subst this
  exact ⟨h2, h3⟩
theorem RowR.elem {p : Pl} {arr : Array Value} {xs : List Dat} (h : RowR S w p arr xs) {i : Nat} {x : Dat} (hx : xs[i]? = some x) :
  CellsD S w x.cells ((arr.toList.drop (i * p.sz)).take p.sz) ∧ x.cells.length = p.sz ∧ i * p.sz + p.sz ≤ arr.size := by
 have hi : i < xs.length := (List.getElem?_eq_some_iff.1 hx).1
 have hz := h.2.2.2.1 i x hx
 have hle : i * p.sz + p.sz ≤ arr.size := by
  rw [h.1, ← Nat.succ_mul]
  exact Nat.mul_le_mul_right _ (by have := h.2.1; omega)
 refine ⟨⟨by simp [hz]; omega, fun j c u hj hu => ?_⟩, hz, hle⟩
 obtain ⟨u', h1, h2, h3⟩ := h.2.2.2.2 i x j c hx hj
 rw [List.getElem?_take] at hu
 split at hu
 ·rw [List.getElem?_drop] at hu
  have hu' : arr[i * p.sz + j]? = some u := by simpa using hu
  rw [h1] at hu'
  obtain rfl := Option.some.inj hu'
  exact ⟨h2, h3⟩
 ·cases hu
theorem drop_take_drop {α : Type} (l : List α) (a b j n : Nat) (h : j + n ≤ b) : (((l.drop a).take b).drop j).take n = (l.drop (a + j)).take n := by
 apply List.ext_getElem?
 intro k
 simp only [List.getElem?_take, List.getElem?_drop]
 by_cases hk : k < n
 ·simp only [hk, if_true]
  rw [if_pos (by omega), Nat.add_assoc]
 ·simp [hk]
theorem load_sound (V : Valid P C) (hM : Mem C S0 L0 w0 S B H F w) {t : TypeId} {p x : AV} {v : Value} (hp : AVR S w B p v) (h : loadA C H t p = some x) :
  ∃ u, (Instr.loadAt t v).run P w = .ok u w ∧ AVR S w B x u := by
 unfold loadA sizeT aggT at h
 cases hy : C.ty t with
 | none => simp [hy] at h
 | some y =>
  simp only [hy, Option.map_some] at h
  cases p with
  | pt id off =>
   cases hp with
   | pt _ _ q hq =>
    have hh := hM.homes id
    cases hH : H id with
    | box cs =>
     simp only [hH] at h hh
     obtain ⟨q', arr, e, hq', hb, hc⟩ := hh.boxCells
     obtain rfl : q' = q := by rw [hq'] at hq; exact Option.some.inj hq
     obtain ⟨ds, hd, hmk⟩ := Option.bind_eq_some_iff.1 h
     obtain ⟨hcut, hn, hle⟩ := hc.cut hd
     obtain ⟨u, hu, hR⟩ := hcut.mk hmk
     exact ⟨u, run_load_cells V hy (range_of_block hb off y.size) (by rw [← hcut.1, hn]) hu, hR⟩
    | immb cs =>
     simp only [hH] at h hh
     obtain ⟨q', arr, e, fr, hq', _, hb, hc⟩ := hh.immbCells
     obtain rfl : q' = q := by rw [hq'] at hq; exact Option.some.inj hq
     obtain ⟨x', hx', rfl⟩ := Option.map_eq_some_iff.1 h
     obtain ⟨ds, hd, hmk⟩ := Option.bind_eq_some_iff.1 hx'
     obtain ⟨hcut, hn, hle⟩ := hc.cut hd
     obtain ⟨u, hu, hR⟩ := hcut.mk hmk
     exact ⟨u, run_load_cells V hy (range_of_block hb off y.size) (by rw [← hcut.1, hn]) hu, .d _ _ hR⟩
    | own z xs => simp [hH] at h
    | imm z xs => simp [hH] at h
    | dead => simp [hH] at h
    | map es => simp [hH] at h
  | pe id i j =>
   cases hp with
   | pe _ _ _ q hq =>
    have hh := hM.homes id
    have key : ∀ (xs : List Dat) (arr : Array Value) (e : TypeId) (fr : Nat × Nat), w.heap[q.blk]? = some (.cells arr e fr) → RowR S w q arr xs →
      (match xs[i]? with | some x => ((cutD x.cells j y.size).bind (mkD (isAgg y.desc))).map AV.d | none => none) = some x →
      ∃ u, (Instr.loadAt t (.pointer (some ⟨q.blk, i * q.sz + j, none⟩))).run P w = .ok u w ∧ AVR S w B x u := by
     intro xs arr e fr hb hr h
     cases hx : xs[i]? with
     | none => simp [hx] at h
     | some x1 =>
      simp only [hx] at h
      obtain ⟨x', hx', rfl⟩ := Option.map_eq_some_iff.1 h
      obtain ⟨ds, hd, hmk⟩ := Option.bind_eq_some_iff.1 hx'
      obtain ⟨he, hz, hle⟩ := hr.elem hx
      obtain ⟨hcut, hn, hle2⟩ := he.cut hd
      rw [drop_take_drop _ _ _ _ _ (by omega)] at hcut
      obtain ⟨u, hu, hR⟩ := hcut.mk hmk
      exact ⟨u, run_load_cells V hy (range_of_block hb _ y.size) (by rw [← hcut.1, hn]) hu, .d _ _ hR⟩
    cases hH : H id with
    | own z xs =>
     simp only [hH] at h hh
     cases hh with
     | ownz _ hn => simp at h
     | own _ q' arr e hq' hb hr =>
      obtain rfl : q' = q := by rw [hq'] at hq; exact Option.some.inj hq
      exact key xs arr e _ hb hr h
    | imm z xs =>
     simp only [hH] at h hh
     cases hh with
     | immz => simp at h
     | imm _ q' arr e fr hq' hS hb hr =>
      obtain rfl : q' = q := by rw [hq'] at hq; exact Option.some.inj hq
      exact key xs arr e fr hb hr h
    | box cs => simp [hH] at h
    | immb cs => simp [hH] at h
    | dead => simp [hH] at h
    | map es => simp [hH] at h
  | d x0 =>
   cases x0 with
   | ptr cs =>
    cases hp with
    | d _ _ hp =>
     cases hp with
     | ptr _ b off us hS hc ho hv =>
      simp only at h
      obtain ⟨x', hx', rfl⟩ := Option.map_eq_some_iff.1 h
      obtain ⟨ds, hd, hmk⟩ := Option.bind_eq_some_iff.1 hx'
      have hC : CellsD S w cs ((List.range cs.length).map us) := by
       refine ⟨by simp, fun j c u hj hu => ?_⟩
       have hjl : j < cs.length := (List.getElem?_eq_some_iff.1 hj).1
       have : us j = u := by simpa [List.getElem?_range, hjl] using hu
       subst this
       exact ⟨ho j hjl, hv j c hj⟩
      obtain ⟨hcut, hn, hle⟩ := hC.cut hd
      obtain ⟨u, hu, hR⟩ := hcut.mk hmk
      refine ⟨u, run_load_cells V hy (fun j v hj => ?_) (by rw [← hcut.1, hn]) hu, .d _ _ hR⟩
      rw [List.getElem?_take] at hj
      split at hj
      ·rename_i hjn
       rw [List.drop_zero] at hj
       have hjl : j < cs.length := by omega
       have : us j = v := by simpa [List.getElem?_range, hjl] using hj
       subst this
       exact hc j hjl
      ·cases hj
   | _ => simp at h
  | _ => simp at h
end
end Go.Jv
namespace Go.Jv
section
variable {P : Program} {C : Cfg} {S0 : Nat → Prop} {L0 : Lz} {w0 : World} {S : Nat → Prop} {B : Nat → Option Pl} {H : Hs} {F : Nat → Prop} {nx : Nat} {w : World}
theorem oneCell_cells {v : Value} (h : v.oneCell' = true) : v.cells = #[v] := by
 cases v <;> simp_all [Value.oneCell', Value.cells]
theorem VR.cellsOk {x : Dat} {v : Value} (h : VR S w x v) (hk : (x.cells.map AV.d).all okC = true) : CellsD S w x.cells v.cells.toList := by
 cases h with
 | agg cs vs hl ho hv =>
  refine ⟨by simp [Dat.cells, Value.cells, hl], fun j c u hj hu => ?_⟩
  have hu' : vs[j]? = some u := by simpa [Value.cells] using hu
  exact ⟨ho u (Array.mem_of_getElem? hu'), hv j c u hj hu'⟩
 | cst v h =>
  rw [oneCell_cells h]
  refine ⟨rfl, fun j c u hj hu => ?_⟩
  match j with
  | 0 =>
   simp only [Dat.cells, List.getElem?_cons_zero, Option.some.injEq] at hj hu
   subst hj; subst hu
   exact ⟨h, .cst v h⟩
  | j + 1 => simp [Dat.cells] at hj
 | _ =>
  refine ⟨rfl, fun j c u hj hu => ?_⟩
  match j with
  | 0 =>
   simp only [Dat.cells, Value.cells, List.getElem?_cons_zero, Option.some.injEq] at hj hu
   first
    | (subst hj; subst hu; exact ⟨by first | rfl | assumption, by constructor <;> assumption⟩)
    | (subst hj; subst hu; exact ⟨by first | rfl | assumption, by constructor⟩)
  | j + 1 => simp [Dat.cells] at hj
theorem AVR.cellsOk {x : AV} {v : Value} (h : AVR S w B x v) (hk : x.cells.all okC = true) : CellsA S w B x.cells v.cells.toList := by
 cases h with
 | agg cs vs hl ho hv =>
  refine ⟨by simp [AV.cells, Value.cells, hl], fun j c u hj hu => ?_⟩
  have hu' : vs[j]? = some u := by simpa [Value.cells] using hu
  exact ⟨ho u (Array.mem_of_getElem? hu'), hv j c u hj hu'⟩
 | d x v h =>
  have := h.cellsOk hk
  refine ⟨by simp [AV.cells, this.1], fun j c u hj hu => ?_⟩
  simp only [AV.cells, List.getElem?_map, Option.map_eq_some_iff] at hj
  obtain ⟨c', hc', rfl⟩ := hj
  obtain ⟨h1, h2⟩ := this.2 j c' u hc' hu
  exact ⟨h1, .d _ _ h2⟩
 | tup => simp [AV.cells, okC] at hk
 | undef => simp [AV.cells, okC] at hk
 | bad => simp [AV.cells, okC] at hk
 | mp id p hp =>
  refine ⟨rfl, fun j c u hj hu => ?_⟩
  match j with
  | 0 => simp [AV.cells, Value.cells] at hj hu; subst hj; subst hu; exact ⟨rfl, .mp id p hp⟩
  | j + 1 => simp [AV.cells] at hj
 | nil =>
  refine ⟨rfl, fun j c u hj hu => ?_⟩
  match j with
  | 0 => simp [AV.cells, Value.cells] at hj hu; subst hj; subst hu; exact ⟨rfl, .nil⟩
  | j + 1 => simp [AV.cells] at hj
 | slz id =>
  refine ⟨rfl, fun j c u hj hu => ?_⟩
  match j with
  | 0 => simp [AV.cells, Value.cells] at hj hu; subst hj; subst hu; exact ⟨rfl, .slz id⟩
  | j + 1 => simp [AV.cells] at hj
 | sl id lo hi p hp h1 h2 h3 hm =>
  refine ⟨rfl, fun j c u hj hu => ?_⟩
  match j with
  | 0 => simp [AV.cells, Value.cells] at hj hu; subst hj; subst hu; exact ⟨rfl, .sl id lo hi p hp h1 h2 h3 hm⟩
  | j + 1 => simp [AV.cells] at hj
 | sle id lo off c p hp h hm =>
  refine ⟨rfl, fun j c u hj hu => ?_⟩
  match j with
  | 0 => simp [AV.cells, Value.cells] at hj hu; subst hj; subst hu; exact ⟨rfl, .sle id lo off _ p hp h hm⟩
  | j + 1 => simp [AV.cells] at hj
 | pt id off p hp =>
  refine ⟨rfl, fun j c u hj hu => ?_⟩
  match j with
  | 0 => simp [AV.cells, Value.cells] at hj hu; subst hj; subst hu; exact ⟨rfl, .pt id off p hp⟩
  | j + 1 => simp [AV.cells] at hj
 | pe id i k p hp =>
  refine ⟨rfl, fun j c u hj hu => ?_⟩
  match j with
  | 0 => simp [AV.cells, Value.cells] at hj hu; subst hj; subst hu; exact ⟨rfl, .pe id i k p hp⟩
  | j + 1 => simp [AV.cells] at hj
 | fn f cs vs hl hv =>
  refine ⟨rfl, fun j c u hj hu => ?_⟩
  match j with
  | 0 => simp [AV.cells, Value.cells] at hj hu; subst hj; subst hu; exact ⟨rfl, .fn f cs vs hl hv⟩
  | j + 1 => simp [AV.cells] at hj
theorem run_store_cells (V : Valid P C) {t : TypeId} {y : Ty} (hy : C.ty t = some y) {b o : Nat} {arr : Array Value} {e : TypeId} (hb : w.heap[b]? = some (.cells arr e (0, 0)))
  {v : Value} (hl : v.cells.size = y.size) (hfit : o + y.size ≤ arr.size) (h1 : ∀ u ∈ v.cells.toList, u.oneCell' = true) :
  (Instr.storeAt t (.pointer (some ⟨b, o, none⟩)) v).run P w = .ok () (w.setRow b (putA arr.toList o v.cells.toList).toArray) := by
 obtain ⟨hu, i, z, hi, hsz, _⟩ := V.ty t y hy
 have hst := run_storeCells_at (P := P) b o e v.cells.toList 0 arr w hb (by simp; omega) h1
 simp only [Nat.add_zero] at hst
 have hs : v.cells.size = i.size := by omega
 simp [Instr.storeAt, Instr.sureAddr, storeVar, sizeOf, typeInfo, hi, hs, hst, putA]
theorem putA_length {α : Type} (cs : List α) (off : Nat) (new : List α) (h : off + new.length ≤ cs.length) : (putA cs off new).length = cs.length := by
 simp [putA]; omega
theorem putA_get {α : Type} (cs : List α) (off : Nat) (new : List α) (h : off + new.length ≤ cs.length) (j : Nat) :
  (putA cs off new)[j]? = if j < off then cs[j]? else if j < off + new.length then new[j - off]? else cs[j]? := by
 unfold putA
 by_cases h1 : j < off
 ·rw [if_pos h1, List.append_assoc, List.getElem?_append_left (by simp; omega), List.getElem?_take, if_pos h1]
 ·rw [if_neg h1]
  by_cases h2 : j < off + new.length
  ·rw [if_pos h2, List.getElem?_append_left (by simp; omega), List.getElem?_append_right (by simp; omega)]
   congr 1
   simp; omega
  ·rw [if_neg h2, List.getElem?_append_right (by simp; omega), List.getElem?_drop]
   congr 1
   simp; omega
theorem CellsA.put {cs new : List AV} {us vs : List Value} (h : CellsA S w B cs us) (hn : CellsA S w B new vs) (off : Nat) (hle : off + new.length ≤ cs.length) : CellsA S w B (putA cs off new) (putA us off vs) := by
 have h1 := h.1
 have h2 := hn.1
 refine ⟨by rw [putA_length _ _ _ hle, putA_length _ _ _ (by omega), h1], fun j c u hj hu => ?_⟩
 rw [putA_get _ _ _ hle] at hj
 rw [putA_get _ _ _ (by omega)] at hu
 by_cases a : j < off
 ·rw [if_pos a] at hj hu; exact h.2 j c u hj hu
 ·rw [if_neg a] at hj hu
  by_cases b : j < off + new.length
  ·rw [if_pos b] at hj; rw [if_pos (by omega)] at hu; exact hn.2 _ c u hj hu
  ·rw [if_neg b] at hj; rw [if_neg (by omega)] at hu; exact h.2 j c u hj hu
theorem CellsD.put {cs new : List Dat} {us vs : List Value} (h : CellsD S w cs us) (hn : CellsD S w new vs) (off : Nat) (hle : off + new.length ≤ cs.length) : CellsD S w (putA cs off new) (putA us off vs) := by
 have h1 := h.1
 have h2 := hn.1
 refine ⟨by rw [putA_length _ _ _ hle, putA_length _ _ _ (by omega), h1], fun j c u hj hu => ?_⟩
 rw [putA_get _ _ _ hle] at hj
 rw [putA_get _ _ _ (by omega)] at hu
 by_cases a : j < off
 ·rw [if_pos a] at hj hu; exact h.2 j c u hj hu
 ·rw [if_neg a] at hj hu
  by_cases b : j < off + new.length
  ·rw [if_pos b] at hj; rw [if_pos (by omega)] at hu; exact hn.2 _ c u hj hu
  ·rw [if_neg b] at hj; rw [if_neg (by omega)] at hu; exact h.2 j c u hj hu
theorem CellsA.mono {S' : Nat → Prop} {w' : World} {B' : Nat → Option Pl} {cs : List AV} {us : List Value} (h : CellsA S w B cs us) (hS : ∀ b, S b → S' b) (hw : Same S w w') (hB : Ext B B') : CellsA S' w' B' cs us :=
 ⟨h.1, fun j c u hj hu => ⟨(h.2 j c u hj hu).1, (h.2 j c u hj hu).2.mono hS hw hB⟩⟩
theorem CellsD.mono {S' : Nat → Prop} {w' : World} {cs : List Dat} {us : List Value} (h : CellsD S w cs us) (hS : ∀ b, S b → S' b) (hw : Same S w w') : CellsD S' w' cs us :=
 ⟨h.1, fun j c u hj hu => ⟨(h.2 j c u hj hu).1, (h.2 j c u hj hu).2.mono hS hw⟩⟩
theorem HR.mkBox {id : Nat} {cs : List AV} {p : Pl} {arr : Array Value} {e : TypeId} (hp : B id = some p) (hb : w.heap[p.blk]? = some (.cells arr e (0, 0))) (hc : CellsA S w B cs arr.toList) : HR S w B id (.box cs) := by
 refine .box cs p arr e hp hb (by simpa using hc.1.symm) fun j c hj => ?_
 have hjl : j < arr.size := by
  have := (List.getElem?_eq_some_iff.1 hj).1
  have := hc.1
  simp at this; omega
 have hu : arr.toList[j]? = some arr[j] := by simp [hjl]
 exact ⟨arr[j], by simp [hjl], (hc.2 j c _ hj hu).1, (hc.2 j c _ hj hu).2⟩
theorem same_setRow {b : Nat} (hb : ¬ S b) (cs : Array Value) : Same S w (w.setRow b cs) := fun k hk => setRow_other w b k cs (fun e => hb (e ▸ hk))
theorem Mem.setBox (hM : Mem C S0 L0 w0 S B H F w) {id : Nat} {cs : List AV} (hH : H id = .box cs) {p : Pl} {arr : Array Value} {e : TypeId} (hp : B id = some p) (hb : w.heap[p.blk]? = some (.cells arr e (0, 0)))
  {cs' : List AV} {arr' : Array Value} (hc : CellsA S w B cs' arr'.toList) : Mem C S0 L0 w0 S B (upd H id (.box cs')) F (w.setRow p.blk arr') := by
 have hl : (H id).live = true := by rw [hH]; rfl
 have hoff := hM.off id p hl hp
 exact hM.write id p hl hp (.box cs') rfl rfl rfl (by simp) (fun b hb' => setRow_other w _ _ _ hb') rfl
  (HR.mkBox hp (setRow_heap w _ arr arr' e (0, 0) hb) (hc.mono (fun _ h => h) (same_setRow hoff arr') (Ext.refl _)))
theorem row_set {p : Pl} {arr : Array Value} {xs : List Dat} (h : RowR S w p arr xs) {i : Nat} {x y : Dat} (hx : xs[i]? = some x) {us : List Value} (hy : CellsD S w y.cells us) (hl : y.cells.length = p.sz) :
  RowR S w p (putA arr.toList (i * p.sz) us).toArray (xs.set i y) := by
 obtain ⟨he, hz, hle⟩ := h.elem hx
 have hi : i < xs.length := (List.getElem?_eq_some_iff.1 hx).1
 have hul : us.length = p.sz := by rw [← hy.1, hl]
 have hfit : i * p.sz + us.length ≤ arr.toList.length := by simp; omega
 refine ⟨by simp only [List.size_toArray]; rw [putA_length _ _ _ hfit]; simpa using h.1, by simpa using h.2.1, h.2.2.1, ?_, ?_⟩
 ·intro k z hk
  by_cases e : i = k
  ·subst e; rw [List.getElem?_set_self hi] at hk; cases hk; exact hl
  ·rw [List.getElem?_set_ne e] at hk; exact h.2.2.2.1 k z hk
 ·intro k z j c hk hj
  have hjl : j < p.sz := by
   have := (List.getElem?_eq_some_iff.1 hj).1
   by_cases e : i = k
   ·subst e; rw [List.getElem?_set_self hi] at hk; cases hk; omega
   ·rw [List.getElem?_set_ne e] at hk; have := h.2.2.2.1 k z hk; omega
  rw [List.getElem?_toArray, putA_get _ _ _ hfit]
  by_cases e : i = k
  ·subst e
   rw [List.getElem?_set_self hi] at hk
   cases hk
   rw [if_neg (by omega), if_pos (by omega), show i * p.sz + j - i * p.sz = j by omega]
   have hju : j < us.length := by omega
   have := hy.2 j c _ hj (List.getElem?_eq_getElem hju)
   exact ⟨us[j], List.getElem?_eq_getElem hju, this.1, this.2⟩
  ·rw [List.getElem?_set_ne e] at hk
   obtain ⟨u, h1, h2, h3⟩ := h.2.2.2.2 k z j c hk hj
   refine ⟨u, ?_, h2, h3⟩
   have hne : ¬ (i * p.sz ≤ k * p.sz + j ∧ k * p.sz + j < i * p.sz + us.length) := by
    rintro ⟨a1, a2⟩
    rcases Nat.lt_or_gt_of_ne e with hlt | hlt
    ·have : (i + 1) * p.sz ≤ k * p.sz := Nat.mul_le_mul_right _ hlt
     rw [Nat.succ_mul] at this; omega
    ·have : (k + 1) * p.sz ≤ i * p.sz := Nat.mul_le_mul_right _ hlt
     rw [Nat.succ_mul] at this; omega
   by_cases a1 : k * p.sz + j < i * p.sz
   ·rw [if_pos a1]; simpa using h1
   ·rw [if_neg a1, if_neg (by omega)]; simpa using h1
theorem putA_putA {α : Type} (l : List α) (a j : Nat) (m : List α) (n : Nat) (hj : j + m.length ≤ n) (hn : a + n ≤ l.length) : putA l a (putA ((l.drop a).take n) j m) = putA l (a + j) m := by
 have hlen : ((l.drop a).take n).length = n := by simp; omega
 apply List.ext_getElem?
 intro k
 have hin : (putA ((l.drop a).take n) j m).length = n := by rw [putA_length _ _ _ (by omega), hlen]
 rw [putA_get l a (putA ((l.drop a).take n) j m) (by omega), putA_get l (a + j) m (by omega)]
 by_cases h1 : k < a
 ·rw [if_pos h1, if_pos (by omega)]
 ·rw [if_neg h1, hin]
  by_cases h2 : k < a + n
  ·rw [if_pos h2, putA_get ((l.drop a).take n) j m (by omega)]
   by_cases h3 : k - a < j
   ·rw [if_pos h3]
    rw [if_pos (show k < a + j by omega), List.getElem?_take, if_pos (show k - a < n by omega), List.getElem?_drop, show a + (k - a) = k by omega]
   ·rw [if_neg h3]
    rw [if_neg (show ¬ k < a + j by omega)]
    by_cases h4 : k - a < j + m.length
    ·rw [if_pos h4]
     rw [if_pos (show k < a + j + m.length by omega), show k - a - j = k - (a + j) by omega]
    ·rw [if_neg h4]
     rw [if_neg (show ¬ k < a + j + m.length by omega), List.getElem?_take, if_pos (show k - a < n by omega), List.getElem?_drop, show a + (k - a) = k by omega]
  ·rw [if_neg h2, if_neg (by omega), if_neg (by omega)]
theorem Mem.setOwn (hM : Mem C S0 L0 w0 S B H F w) {id : Nat} {z : Row} {xs : List Dat} (hH : H id = .own z xs) {p : Pl} {arr : Array Value} {e : TypeId} (hp : B id = some p) (hb : w.heap[p.blk]? = some (.cells arr e (0, 0)))
  {xs' : List Dat} {arr' : Array Value} (hr : RowR S w p arr' xs') : Mem C S0 L0 w0 S B (upd H id (.own ⟨e, p.sz⟩ xs')) F (w.setRow p.blk arr') := by
 have hl : (H id).live = true := by rw [hH]; rfl
 have hoff := hM.off id p hl hp
 exact hM.write id p hl hp (.own ⟨e, p.sz⟩ xs') rfl rfl rfl (by simp) (fun b hb' => setRow_other w _ _ _ hb') rfl
  (.own xs' p arr' e hp (setRow_heap w _ arr arr' e (0, 0) hb) (hr.mono (fun _ h => h) (same_setRow hoff arr')))
theorem datA_sound {v : AV} {x : Dat} {val : Value} (h : AVR S w B v val) (hx : datA v = some x) : VR S w x val := by
 have key : ∀ (cs : List AV) (xs : List Dat), seeAll (fun | .d x => some x | .nil => some (.lst []) | _ => none) cs = some xs → cs.length = xs.length ∧ ∀ (j : Nat) c u, xs[j]? = some c → (∀ a, cs[j]? = some a → AVR S w B a u) → VR S w c u := by
  intro cs
  induction cs with
  | nil => intro xs hxs; simp [seeAll] at hxs; subst hxs; exact ⟨rfl, fun j c u hj _ => by simp at hj⟩
  | cons a cs ih =>
   intro xs hxs
   simp only [seeAll] at hxs
   split at hxs
   ·rename_i x0 xs0 h1 h2
    cases hxs
    obtain ⟨hl, hv⟩ := ih xs0 h2
    refine ⟨by simp [hl], fun j c u hj hu => ?_⟩
    match j with
    | 0 =>
     simp only [List.getElem?_cons_zero, Option.some.injEq] at hj
     subst hj
     have ha := hu a rfl
     cases a <;> simp at h1
     ·subst h1; cases ha with | d _ _ ha => exact ha
     ·subst h1; cases ha; exact .nil
    | j + 1 => exact hv j c u (by simpa using hj) (fun a' ha' => hu a' (by simpa using ha'))
   ·cases hxs
 cases v with
 | d x0 => simp [datA] at hx; subst hx; cases h with | d _ _ h => exact h
 | nil => simp [datA] at hx; subst hx; cases h; exact .nil
 | agg cs =>
  simp only [datA, Option.map_eq_some_iff] at hx
  obtain ⟨xs, hxs, rfl⟩ := hx
  cases h with
  | agg _ vs hl ho hv =>
   obtain ⟨hl', hk⟩ := key cs xs hxs
   refine .agg xs vs (by omega) ho (fun j c u hj hu => hk j c u hj (fun a ha => hv j a u ha hu))
 | _ => simp [datA] at hx
theorem store_sound (V : Valid P C) (hM : Mem C S0 L0 w0 S B H F w) {t : TypeId} {p v : AV} {pv val : Value} (hp : AVR S w B p pv) (hv : AVR S w B v val) {H1 : Hs} (h : storeA C H t p v = some H1) :
  ∃ w1, (Instr.storeAt t pv val).run P w = .ok () w1 ∧ Mem C S0 L0 w0 S B H1 F w1 ∧ Same S w w1 := by
 unfold storeA sizeT at h
 cases hy : C.ty t with
 | none => simp [hy] at h
 | some y =>
  simp only [hy, Option.map_some] at h
  cases p with
  | pt id off =>
   cases hp with
   | pt _ _ q hq =>
    have hh := hM.homes id
    cases hH : H id with
    | box cs =>
     simp only [hH] at h hh
     split at h
     ·rename_i hc
      obtain ⟨hl, hk, hle⟩ := hc
      cases h
      obtain ⟨q', arr, e, hq', hb, hcs⟩ := hh.boxCells
      obtain rfl : q' = q := by rw [hq'] at hq; exact Option.some.inj hq
      have hcv := hv.cellsOk hk
      have hlen := hcs.1
      refine ⟨_, run_store_cells V hy hb (by have := hcv.1; simp at this; omega) (by simp at hlen; omega) hcv.one, ?_, ?_⟩
      ·exact hM.setBox hH hq hb (by simpa using hcs.put hcv off (by omega))
      ·exact same_setRow (hM.off id _ (by rw [hH]; rfl) hq) _
     ·cases h
    | _ => simp [hH] at h
  | pe id i j =>
   cases hp with
   | pe _ _ _ q hq =>
    have hh := hM.homes id
    cases hx : datA v with
    | none => simp [hx] at h
    | some x =>
     cases hH : H id with
     | own z xs =>
      simp only [hH, hx] at h hh
      cases hy0 : xs[i]? with
      | none => simp [hy0] at h
      | some y0 =>
       simp only [hy0] at h
       split at h
       ·rename_i hc
        obtain ⟨hl, hk, hle⟩ := hc
        have hcv := (datA_sound hv hx).cellsOk hk
        cases hh with
        | ownz _ hn => simp at hy0
        | own _ q' arr e hq' hb hr =>
         obtain rfl : q' = q := by rw [hq'] at hq; exact Option.some.inj hq
         obtain ⟨he, hz, hle2⟩ := hr.elem hy0
         have hvl : val.cells.toList.length = y.size := by rw [← hcv.1, hl]
         have hvs : val.cells.size = y.size := by simpa using hvl
         have hrun := run_store_cells (w := w) V hy hb (o := i * q'.sz + j) hvs (by omega) hcv.one
         refine ⟨_, hrun, ?_, same_setRow (hM.off id _ (by rw [hH]; rfl) hq) _⟩
         have hput : putA arr.toList (i * q'.sz + j) val.cells.toList = putA arr.toList (i * q'.sz) (putA ((arr.toList.drop (i * q'.sz)).take q'.sz) j val.cells.toList) :=
          (putA_putA arr.toList (i * q'.sz) j val.cells.toList q'.sz (by omega) (by simpa using hle2)).symm
         rw [hput]
         cases y0 with
         | agg cs =>
          simp only at h
          cases h
          have hle' : j + x.cells.length ≤ (Dat.agg cs).cells.length := by omega
          refine hM.setOwn hH hq hb (row_set hr hy0 (y := .agg (putA cs j x.cells)) ?_ ?_)
          ·exact he.put hcv j hle'
          ·have e1 : (Dat.agg (putA cs j x.cells)).cells = putA cs j x.cells := rfl
           rw [e1, putA_length cs j x.cells hle']
           exact hz
         | _ =>
          all_goals
           simp only at h
           split at h
           ·rename_i c hxc
            cases h
            have hz' : q'.sz = 1 := by simpa [Dat.cells] using hz.symm
            have hj0 : j = 0 := by simp only [Dat.cells, List.length_singleton] at hle; simp only [hxc, List.length_singleton] at hl; omega
            have hcc : c.cells = [c] := by
             have := hk
             rw [hxc] at this
             cases c <;> first | rfl | (simp [okC] at this)
            subst hj0
            have hul : val.cells.toList.length = 1 := by rw [← hcv.1, hxc]; rfl
            have hpp : putA ((arr.toList.drop (i * q'.sz)).take q'.sz) 0 val.cells.toList = val.cells.toList := by
             unfold putA
             simp only [List.take_zero, List.nil_append, Nat.zero_add]
             rw [List.drop_of_length_le (by simp; omega), List.append_nil]
            rw [hpp]
            refine hM.setOwn hH hq hb (row_set hr hy0 (y := c) ?_ (by rw [hcc]; simpa using hz'.symm))
            rw [hcc, ← hxc]
            exact hcv
           ·cases h
       ·cases h
     | _ => simp [hH, hx] at h
  | _ => simp at h
end
end Go.Jv
namespace Go.Jv
section
variable {P : Program} {C : Cfg} {S0 : Nat → Prop} {L0 : Lz} {w0 : World} {S : Nat → Prop} {B : Nat → Option Pl} {H : Hs} {F : Nat → Prop} {nx : Nat} {w : World}
def Lv (B : Nat → Option Pl) (H : Hs) (b : Nat) : Prop := ∃ id p, (H id).live = true ∧ B id = some p ∧ p.blk = b
theorem win_length {xs : List Dat} {lo hi : Nat} (h1 : lo ≤ hi) (h2 : hi ≤ xs.length) : (win xs lo hi).length = hi - lo := by
 simp [win]; omega
theorem win_get {xs : List Dat} {lo hi i : Nat} {x : Dat} (h : (win xs lo hi)[i]? = some x) : xs[lo + i]? = some x ∧ i < hi - lo := by
 unfold win at h
 rw [List.getElem?_take] at h
 split at h
 ·rw [List.getElem?_drop] at h; rename_i hi'; exact ⟨h, hi'⟩
 ·cases h
theorem RowR.lst {T : Nat → Prop} {p : Pl} {arr : Array Value} {e : TypeId} {fr : Nat × Nat} {xs : List Dat} (h : RowR S w p arr xs) (hb : w.heap[p.blk]? = some (.cells arr e fr)) (hT : T p.blk) (hS : ∀ b, S b → T b)
  {lo hi : Nat} (h1 : lo ≤ hi) (h2 : hi ≤ xs.length) (off : Nat) (hoff : off = lo * p.sz ∨ lo = hi) (c : Nat) (hc : hi - lo ≤ c) (hm : c ≤ maxLen) :
  VR T w (.lst (win xs lo hi)) (.slice (some ⟨p.blk, off, none⟩) (hi - lo) c) := by
 have hwl := win_length h1 h2
 have key := VR.lst (S := T) (w := w) (win xs lo hi) p.blk off c p.sz (fun i j => arr.getD ((lo + i) * p.sz + j) Go.undef) hT (by omega) hm
  (fun i x hx => h.2.2.2.1 (lo + i) x (win_get hx).1)
  (fun i j hi' hj => by
   have hx : (win xs lo hi)[i]? = some ((win xs lo hi)[i]) := List.getElem?_eq_getElem hi'
   obtain ⟨hx1, hlt⟩ := win_get hx
   have hoff' : off = lo * p.sz := by rcases hoff with h | h <;> omega
   obtain ⟨he, hz, hle⟩ := h.elem hx1
   have hidx : off + (i * p.sz + j) = (lo + i) * p.sz + j := by rw [hoff', Nat.add_mul]; omega
   have hsz : (lo + i) * p.sz + j < arr.size := by omega
   simp [World.cell?, hb, hidx, Array.getD_eq_getD_getElem?, hsz])
  (fun i j hi' hj => by
   have hx : (win xs lo hi)[i]? = some ((win xs lo hi)[i]) := List.getElem?_eq_getElem hi'
   obtain ⟨hx1, hlt⟩ := win_get hx
   have hz := h.2.2.2.1 _ _ hx1
   obtain ⟨u, hu1, hu2, hu3⟩ := h.2.2.2.2 _ _ j _ hx1 (List.getElem?_eq_getElem (by omega))
   simpa [Array.getD_eq_getD_getElem?, hu1] using hu2)
  (fun i x j c hx hj => by
   obtain ⟨hx1, hlt⟩ := win_get hx
   obtain ⟨u, hu1, hu2, hu3⟩ := h.2.2.2.2 _ _ j _ hx1 hj
   have : arr.getD ((lo + i) * p.sz + j) Go.undef = u := by simp [Array.getD_eq_getD_getElem?, hu1]
   rw [this]
   exact hu3.mono hS (fun _ _ => rfl))
 rw [hwl] at key
 exact key
theorem AVR.slCases {id lo hi : Nat} {v : Value} (h : AVR S w B (.sl id lo hi) v) :
  (lo = 0 ∧ hi = 0 ∧ v = .slice none 0 0) ∨ ∃ p off c, B id = some p ∧ v = .slice (some ⟨p.blk, off, none⟩) (hi - lo) c ∧ lo ≤ hi ∧ hi - lo ≤ c ∧ c ≤ maxLen ∧ (off = lo * p.sz ∨ lo = hi) ∧ (lo = 0 → off = 0 ∧ c = p.cap ∧ hi ≤ p.cap) := by
 cases h with
 | slz => exact .inl ⟨rfl, rfl, rfl⟩
 | sl _ _ _ p hp h1 h2 h3 hm => exact .inr ⟨p, _, _, hp, rfl, h1, by omega, by omega, .inl rfl, fun e => by subst e; simp [h2]⟩
 | sle _ _ off c p hp h hm => exact .inr ⟨p, off, c, hp, by simp, Nat.le_refl _, by omega, hm, .inr rfl, fun e => by omega⟩
theorem CellsD.ptr {T : Nat → Prop} {cs : List Dat} {b : Nat} {arr : Array Value} {e : TypeId} {fr : Nat × Nat} (hc : CellsD T w cs arr.toList) (hb : w.heap[b]? = some (.cells arr e fr)) (hT : T b) (off : Nat) :
  VR T w (.ptr (cs.drop off)) (.pointer (some ⟨b, off, none⟩)) := by
 have hl := hc.1
 refine .ptr _ b off (fun j => arr.getD (off + j) Go.undef) hT (fun j hj => ?_) (fun j hj => ?_) (fun j c hj => ?_)
 ·simp only [List.length_drop] at hj
  have : off + j < arr.size := by simp at hl; omega
  simp [World.cell?, hb, Array.getD_eq_getD_getElem?, this]
 ·simp only [List.length_drop] at hj
  have h1 : off + j < arr.size := by simp at hl; omega
  have h2 : off + j < cs.length := by omega
  have := (hc.2 (off + j) _ arr[off + j] (List.getElem?_eq_getElem h2) (by simp [h1])).1
  simpa [Array.getD_eq_getD_getElem?, h1] using this
 ·rw [List.getElem?_drop] at hj
  have h2 : off + j < cs.length := (List.getElem?_eq_some_iff.1 hj).1
  have h1 : off + j < arr.size := by simp at hl; omega
  have := (hc.2 (off + j) c arr[off + j] hj (by simp [h1])).2
  simpa [Array.getD_eq_getD_getElem?, h1] using this
theorem seeAll_get {f : AV → Option Dat} : ∀ {cs : List AV} {xs : List Dat}, seeAll f cs = some xs → cs.length = xs.length ∧ ∀ (j : Nat) c, cs[j]? = some c → ∃ x, xs[j]? = some x ∧ f c = some x
 | [], xs, h => by simp [seeAll] at h; subst h; exact ⟨rfl, fun j c hj => by simp at hj⟩
 | c :: cs, xs, h => by
  simp only [seeAll] at h
  split at h
  ·rename_i x xs0 h1 h2
   cases h
   obtain ⟨hl, hv⟩ := seeAll_get h2
   refine ⟨by simp [hl], fun j c' hj => ?_⟩
   match j with
   | 0 => simp at hj; subst hj; exact ⟨x, rfl, h1⟩
   | j + 1 => simpa using hv j c' (by simpa using hj)
  ·cases h
theorem see_sound (hM : Mem C S0 L0 w0 S B H F w) : ∀ (n : Nat) {v : AV} {val : Value} {x : Dat}, AVR S w B v val → see n H v = some x → VR (fun b => S b ∨ Lv B H b) w x val
 | 0, v, val, x, _, h => by simp [see] at h
 | n + 1, v, val, x, hv, h => by
  have ih := fun {v : AV} {val : Value} {x : Dat} => see_sound hM n (v := v) (val := val) (x := x)
  have cells : ∀ {cs : List AV} {us : List Value} {xs : List Dat}, CellsA S w B cs us → seeAll (see n H) cs = some xs → CellsD (fun b => S b ∨ Lv B H b) w xs us := by
   intro cs us xs hc hs
   obtain ⟨hl, hg⟩ := seeAll_get hs
   refine ⟨by rw [← hl, hc.1], fun j x u hj hu => ?_⟩
   have hjl : j < cs.length := by rw [hl]; exact (List.getElem?_eq_some_iff.1 hj).1
   obtain ⟨x', hx', hsee⟩ := hg j _ (List.getElem?_eq_getElem hjl)
   rw [hj] at hx'
   cases hx'
   have := hc.2 j _ u (List.getElem?_eq_getElem hjl) hu
   exact ⟨this.1, ih this.2 hsee⟩
  cases v with
  | d x0 => simp [see] at h; subst h; cases hv with | d _ _ hv => exact hv.mono (fun _ hb => .inl hb) (fun _ _ => rfl)
  | nil => simp [see] at h; subst h; cases hv; exact .nil
  | sl id lo hi =>
   simp only [see] at h
   have hh := hM.homes id
   cases hH : H id with
   | own z xs =>
    simp only [hH] at h hh
    split at h
    ·rename_i hc
     cases h
     rcases hv.slCases with ⟨rfl, rfl, rfl⟩ | ⟨p, off, c, hp, rfl, h1, h2, h3, h4, _⟩
     ·simp only [win, List.drop_zero, Nat.sub_self, List.take_zero]; exact .nil
     ·cases hh with
      | ownz _ hn => rw [hn] at hp; cases hp
      | own _ q arr e hq hb hr =>
       obtain rfl : q = p := by rw [hq] at hp; exact Option.some.inj hp
       exact hr.lst hb (.inr ⟨id, q, by rw [hH]; rfl, hq, rfl⟩) (fun _ hb => .inl hb) hc.1 hc.2 off h4 c h2 h3
    ·cases h
   | imm z xs =>
    simp only [hH] at h hh
    split at h
    ·rename_i hc
     cases h
     rcases hv.slCases with ⟨rfl, rfl, rfl⟩ | ⟨p, off, c, hp, rfl, h1, h2, h3, h4, _⟩
     ·simp only [win, List.drop_zero, Nat.sub_self, List.take_zero]; exact .nil
     ·cases hh with
      | immz _ hn => rw [hn] at hp; cases hp
      | imm _ q arr e fr hq hS hb hr =>
       obtain rfl : q = p := by rw [hq] at hp; exact Option.some.inj hp
       exact hr.lst hb (.inl hS) (fun _ hb => .inl hb) hc.1 hc.2 off h4 c h2 h3
    ·cases h
   | box cs => simp [hH] at h
   | immb cs => simp [hH] at h
   | dead => simp [hH] at h
   | map es => simp [hH] at h
  | pt id off =>
   simp only [see] at h
   have hh := hM.homes id
   cases hv with
   | pt _ _ p hp =>
    cases hH : H id with
    | immb cs =>
     simp only [hH] at h hh
     cases h
     obtain ⟨q, arr, e, fr, hq, hS, hb, hc⟩ := hh.immbCells
     obtain rfl : q = p := by rw [hq] at hp; exact Option.some.inj hp
     exact (hc.mono (fun _ hb => .inl hb) (fun _ _ => rfl)).ptr hb (.inl hS) off
    | box cs =>
     simp only [hH] at h hh
     obtain ⟨xs, hxs, rfl⟩ := Option.map_eq_some_iff.1 h
     obtain ⟨q, arr, e, hq, hb, hc⟩ := hh.boxCells
     obtain rfl : q = p := by rw [hq] at hp; exact Option.some.inj hp
     exact (cells hc hxs).ptr hb (.inr ⟨id, q, by rw [hH]; rfl, hq, rfl⟩) off
    | _ => simp [hH] at h
  | agg cs =>
   simp only [see] at h
   obtain ⟨xs, hxs, rfl⟩ := Option.map_eq_some_iff.1 h
   cases hv with
   | agg _ vs hl ho hv =>
    obtain ⟨hl', hg⟩ := seeAll_get hxs
    refine .agg xs vs (by omega) ho (fun j x u hj hu => ?_)
    have hjl : j < cs.length := by rw [hl']; exact (List.getElem?_eq_some_iff.1 hj).1
    obtain ⟨x', hx', hsee⟩ := hg j _ (List.getElem?_eq_getElem hjl)
    rw [hj] at hx'; cases hx'
    exact ih (hv j _ u (List.getElem?_eq_getElem hjl) hu) hsee
  | fn f cs =>
   simp only [see] at h
   obtain ⟨xs, hxs, rfl⟩ := Option.map_eq_some_iff.1 h
   cases hv with
   | fn _ _ vs hl hv =>
    obtain ⟨hl', hg⟩ := seeAll_get hxs
    refine .fn f xs vs (by omega) (fun j x u hj hu => ?_)
    have hjl : j < cs.length := by rw [hl']; exact (List.getElem?_eq_some_iff.1 hj).1
    obtain ⟨x', hx', hsee⟩ := hg j _ (List.getElem?_eq_getElem hjl)
    rw [hj] at hx'; cases hx'
    exact ih (hv j _ u (List.getElem?_eq_getElem hjl) hu) hsee
  | _ => simp [see] at h
theorem frz_live : ∀ (n : Nat) {H H1 : Hs} {v : AV} {x : Dat}, frz n H v = some (x, H1) → ∀ id, (H1 id).live = true → (H id).live = true
 | 0, _, _, _, _, h => by simp [frz] at h
 | n + 1, H, H1, v, x, h => by
  have list : ∀ (cs : List AV) {H H1 : Hs} {xs : List Dat}, frzL (frz n) H cs = some (xs, H1) → ∀ id, (H1 id).live = true → (H id).live = true := by
   intro cs
   induction cs with
   | nil => intro H H1 xs h; simp [frzL] at h; obtain ⟨_, rfl⟩ := h; exact fun _ h => h
   | cons c cs ihl =>
    intro H H1 xs h
    simp only [frzL] at h
    split at h
    ·cases h
    ·rename_i x0 H2 h0
     split at h
     ·rename_i xs0 H3 h1
      cases h
      exact fun id hid => frz_live n h0 id (ihl h1 id hid)
     ·cases h
  have setd : ∀ {H : Hs} {i : Nat} {h : Home}, h.live = false → ∀ id, (upd H i h id).live = true → (H id).live = true := by
   intro H i h hl id hid
   by_cases e : id = i
   ·subst e; simp [upd, hl] at hid
   ·simpa [upd, e] using hid
  intro id hid
  cases v with
  | d x0 => simp [frz] at h; obtain ⟨_, rfl⟩ := h; exact hid
  | nil => simp [frz] at h; obtain ⟨_, rfl⟩ := h; exact hid
  | sl i lo hi =>
   simp only [frz] at h
   split at h
   ·split at h
    ·simp only [Option.some.injEq, Prod.mk.injEq] at h; obtain ⟨_, rfl⟩ := h; exact setd rfl id hid
    ·cases h
   ·split at h
    ·simp only [Option.some.injEq, Prod.mk.injEq] at h; obtain ⟨_, rfl⟩ := h; exact hid
    ·cases h
   ·cases h
  | pt i off =>
   simp only [frz] at h
   split at h
   ·simp only [Option.some.injEq, Prod.mk.injEq] at h; obtain ⟨_, rfl⟩ := h; exact hid
   ·split at h
    ·rename_i xs H2 h2
     split at h
     ·simp only [Option.some.injEq, Prod.mk.injEq] at h; obtain ⟨_, rfl⟩ := h; exact list _ h2 id (setd rfl id hid)
     ·cases h
    ·cases h
   ·cases h
  | agg cs =>
   simp only [frz] at h
   obtain ⟨⟨xs, H2⟩, h2, hh⟩ := Option.map_eq_some_iff.1 h
   simp only [Prod.mk.injEq] at hh
   obtain ⟨_, rfl⟩ := hh
   exact list _ h2 id hid
  | fn f cs =>
   simp only [frz] at h
   obtain ⟨⟨xs, H2⟩, h2, hh⟩ := Option.map_eq_some_iff.1 h
   simp only [Prod.mk.injEq] at hh
   obtain ⟨_, rfl⟩ := hh
   exact list _ h2 id hid
  | _ => simp [frz] at h
theorem frz_sound : ∀ (n : Nat) {H : Hs} {S : Nat → Prop} {v : AV} {val : Value} {x : Dat} {H1 : Hs}, Mem C S0 L0 w0 S B H F w → AVR S w B v val → frz n H v = some (x, H1) →
  ∃ S1 : Nat → Prop, Mem C S0 L0 w0 S1 B H1 F w ∧ (∀ b, S b → S1 b) ∧ VR S1 w x val ∧ (∀ b, S1 b → S b ∨ Lv B H b)
 | 0, _, _, _, _, _, _, _, _, h => by simp [frz] at h
 | n + 1, H, S, v, val, x, H1, hM, hv, h => by
  have list : ∀ (cs : List AV) (us : List Value) {H : Hs} {S : Nat → Prop} {xs : List Dat} {H1 : Hs}, Mem C S0 L0 w0 S B H F w → cs.length = us.length → (∀ (j : Nat) c u, cs[j]? = some c → us[j]? = some u → AVR S w B c u) → frzL (frz n) H cs = some (xs, H1) →
    ∃ S1 : Nat → Prop, Mem C S0 L0 w0 S1 B H1 F w ∧ (∀ b, S b → S1 b) ∧ xs.length = us.length ∧ (∀ (j : Nat) c u, xs[j]? = some c → us[j]? = some u → VR S1 w c u) ∧ (∀ b, S1 b → S b ∨ Lv B H b) := by
   intro cs
   induction cs with
   | nil =>
    intro us H S xs H1 hM hl hv h
    simp [frzL] at h
    obtain ⟨rfl, rfl⟩ := h
    exact ⟨S, hM, fun _ hb => hb, hl, fun j c u hj _ => by simp at hj, fun _ hb => .inl hb⟩
   | cons c cs ihl =>
    intro us H S xs H1 hM hl hv h
    match us, hl with
    | u :: us, hl =>
     simp only [frzL] at h
     split at h
     ·cases h
     ·rename_i x0 H2 h0
      split at h
      ·rename_i xs0 H3 h1
       cases h
       obtain ⟨S1, hM1, hS1, hx1, hL1⟩ := frz_sound n hM (hv 0 c u rfl rfl) h0
       obtain ⟨S2, hM2, hS2, hl2, hx2, hL2⟩ := ihl us hM1 (by simpa using hl) (fun j c' u' hj hu => (hv (j + 1) c' u' (by simpa using hj) (by simpa using hu)).mono hS1 (fun _ _ => rfl) (Ext.refl _)) h1
       refine ⟨S2, hM2, fun b hb => hS2 b (hS1 b hb), by simp [hl2], fun j c' u' hj hu => ?_, fun b hb => ?_⟩
       ·match j with
        | 0 => simp at hj hu; subst hj; subst hu; exact hx1.mono hS2 (fun _ _ => rfl)
        | j + 1 => exact hx2 j c' u' (by simpa using hj) (by simpa using hu)
       ·rcases hL2 b hb with hb | ⟨id, p, hl, hp, rfl⟩
        ·exact hL1 b hb
        ·by_cases hlive : (H id).live = true
         ·exact .inr ⟨id, p, hlive, hp, rfl⟩
         ·exact absurd hl (by
           intro hl
           have := frz_live n h0 id hl
           exact hlive this)
      ·cases h
  cases v with
  | d x0 =>
   simp [frz] at h
   obtain ⟨rfl, rfl⟩ := h
   cases hv with | d _ _ hv => exact ⟨S, hM, fun _ hb => hb, hv, fun _ hb => .inl hb⟩
  | nil =>
   simp [frz] at h
   obtain ⟨rfl, rfl⟩ := h
   cases hv; exact ⟨S, hM, fun _ hb => hb, .nil, fun _ hb => .inl hb⟩
  | sl id lo hi =>
   simp only [frz] at h
   have hh := hM.homes id
   cases hH : H id with
   | own z xs =>
    simp only [hH] at h hh
    split at h
    ·rename_i hc
     simp only [Option.some.injEq, Prod.mk.injEq] at h
     obtain ⟨rfl, rfl⟩ := h
     cases hh with
     | ownz _ hn =>
      refine ⟨S, ?_, fun _ hb => hb, ?_, fun _ hb => .inl hb⟩
      ·have hd := hM.drop id
       refine ⟨?_, ?_, hM.freshB, ?_, ?_, hM.lt, hM.glob, hM.os, hM.tape, hM.output, hM.size, hM.keep, hM.sub, ?_, hM.sIn, hM.b0, hM.b0F⟩
       ·intro j
        by_cases e : j = id
        ·subst e; simp only [upd, if_true]; exact .immz _ hn
        ·simp only [upd, e, if_false]; exact hM.homes j
       ·intro j hj
        have : j ≠ id := fun e => by subst e; have := hM.fresh _ hj; rw [hH] at this; cases this
        simp [upd, this, hM.fresh j hj]
       ·intro i j q q' hi hj hq hq' hne
        have hi' : (H i).live = true := by by_cases e : i = id <;> simp_all [upd, Home.live]
        have hj' : (H j).live = true := by by_cases e : j = id <;> simp_all [upd, Home.live]
        exact hM.inj i j q q' hi' hj' hq hq' hne
       ·intro j q hj hq
        have hj' : (H j).live = true := by by_cases e : j = id <;> simp_all [upd, Home.live]
        exact hM.off j q hj' hq
       ·intro j q hj hq
        have hj' : (H j).live = true := by by_cases e : j = id <;> simp_all [upd, Home.live]
        exact hM.liveIn j q hj' hq
      ·rcases hv.slCases with ⟨rfl, rfl, rfl⟩ | ⟨p, off, c, hp, rfl, h1, h2, h3, h4, _⟩
       ·simp only [win, List.drop_zero, Nat.sub_self, List.take_zero]; exact .nil
       ·rw [hn] at hp; cases hp
     | own _ q arr e hq hb hr =>
      have hl : (H id).live = true := by rw [hH]; rfl
      refine ⟨fun b => S b ∨ b = q.blk, hM.fixOwn id q hl hq (.imm ⟨e, q.sz⟩ xs) rfl (.imm xs q arr e (0, 0) hq (.inr rfl) hb (hr.mono (fun _ h => .inl h) (fun _ _ => rfl))), fun _ hb => .inl hb, ?_, ?_⟩
      ·rcases hv.slCases with ⟨rfl, rfl, rfl⟩ | ⟨p, off, c, hp, rfl, h1, h2, h3, h4, _⟩
       ·simp only [win, List.drop_zero, Nat.sub_self, List.take_zero]; exact .nil
       ·obtain rfl : q = p := by rw [hq] at hp; exact Option.some.inj hp
        exact hr.lst hb (.inr rfl) (fun _ hb => .inl hb) hc.1 hc.2 off h4 c h2 h3
      ·rintro b (hb | rfl)
       ·exact .inl hb
       ·exact .inr ⟨id, q, hl, hq, rfl⟩
    ·cases h
   | imm z xs =>
    simp only [hH] at h hh
    split at h
    ·rename_i hc
     simp only [Option.some.injEq, Prod.mk.injEq] at h
     obtain ⟨rfl, rfl⟩ := h
     refine ⟨S, hM, fun _ hb => hb, ?_, fun _ hb => .inl hb⟩
     rcases hv.slCases with ⟨rfl, rfl, rfl⟩ | ⟨p, off, c, hp, rfl, h1, h2, h3, h4, _⟩
     ·simp only [win, List.drop_zero, Nat.sub_self, List.take_zero]; exact .nil
     ·cases hh with
      | immz _ hn => rw [hn] at hp; cases hp
      | imm _ q arr e fr hq hS hb hr =>
       obtain rfl : q = p := by rw [hq] at hp; exact Option.some.inj hp
       exact hr.lst hb hS (fun _ hb => hb) hc.1 hc.2 off h4 c h2 h3
    ·cases h
   | box cs => simp [hH] at h
   | immb cs => simp [hH] at h
   | dead => simp [hH] at h
   | map es => simp [hH] at h
  | pt id off =>
   simp only [frz] at h
   have hh := hM.homes id
   cases hv with
   | pt _ _ p hp =>
    cases hH : H id with
    | immb cs =>
     simp only [hH] at h hh
     simp only [Option.some.injEq, Prod.mk.injEq] at h
     obtain ⟨rfl, rfl⟩ := h
     obtain ⟨q, arr, e, fr, hq, hS, hb, hc⟩ := hh.immbCells
     obtain rfl : q = p := by rw [hq] at hp; exact Option.some.inj hp
     exact ⟨S, hM, fun _ hb => hb, hc.ptr hb hS off, fun _ hb => .inl hb⟩
    | box cs =>
     simp only [hH] at h hh
     split at h
     ·rename_i xs H2 h2
      split at h
      ·rename_i cs2 hcs2
       simp only [Option.some.injEq, Prod.mk.injEq] at h
       obtain ⟨rfl, rfl⟩ := h
       obtain ⟨q, arr, e, hq, hb, hc⟩ := hh.boxCells
       obtain rfl : q = p := by rw [hq] at hp; exact Option.some.inj hp
       obtain ⟨S1, hM1, hS1, hl1, hx1, hL1⟩ := list cs arr.toList hM hc.1 (fun j c u hj hu => (hc.2 j c u hj hu).2) h2
       have hl : (H2 id).live = true := by rw [hcs2]; rfl
       have hlH : (H id).live = true := by rw [hH]; rfl
       have hcd : CellsD (fun b => S1 b ∨ b = q.blk) w xs arr.toList := ⟨hl1, fun j c u hj hu => by
        have hjl : j < cs.length := by rw [hc.1, ← hl1]; exact (List.getElem?_eq_some_iff.1 hj).1
        exact ⟨(hc.2 j _ u (List.getElem?_eq_getElem hjl) hu).1, (hx1 j c u hj hu).mono (fun _ h => .inl h) (fun _ _ => rfl)⟩⟩
       refine ⟨fun b => S1 b ∨ b = q.blk, hM1.fixOwn id q hl hq (.immb xs) rfl ?_, fun b hb => .inl (hS1 b hb), hcd.ptr hb (.inr rfl) off, ?_⟩
       ·refine .immb xs q arr e (0, 0) hq (.inr rfl) hb (by simpa using hl1.symm) (fun j c hj => ?_)
        have hjl : j < arr.size := by
         have := (List.getElem?_eq_some_iff.1 hj).1
         simp at hl1; omega
        have := hcd.2 j c arr[j] hj (by simp [hjl])
        exact ⟨arr[j], by simp [hjl], this.1, this.2⟩
       ·rintro b (hb | rfl)
        ·exact hL1 b hb
        ·exact .inr ⟨id, q, hlH, hq, rfl⟩
      ·cases h
     ·cases h
    | _ => simp [hH] at h
  | agg cs =>
   simp only [frz] at h
   obtain ⟨⟨xs, H2⟩, h2, hh⟩ := Option.map_eq_some_iff.1 h
   simp only [Prod.mk.injEq] at hh
   obtain ⟨rfl, rfl⟩ := hh
   cases hv with
   | agg _ vs hl ho hv =>
    obtain ⟨S1, hM1, hS1, hl1, hx1, hL1⟩ := list cs vs.toList hM (by simpa using hl) (fun j c u hj hu => hv j c u hj (by simpa using hu)) h2
    exact ⟨S1, hM1, hS1, .agg xs vs (by simpa using hl1) ho (fun j c u hj hu => hx1 j c u hj (by simpa using hu)), hL1⟩
  | fn f cs =>
   simp only [frz] at h
   obtain ⟨⟨xs, H2⟩, h2, hh⟩ := Option.map_eq_some_iff.1 h
   simp only [Prod.mk.injEq] at hh
   obtain ⟨rfl, rfl⟩ := hh
   cases hv with
   | fn _ _ vs hl hv =>
    obtain ⟨S1, hM1, hS1, hl1, hx1, hL1⟩ := list cs vs.toList hM (by simpa using hl) (fun j c u hj hu => hv j c u hj (by simpa using hu)) h2
    exact ⟨S1, hM1, hS1, .fn f xs vs (by simpa using hl1) (fun j c u hj hu => hx1 j c u hj (by simpa using hu)), hL1⟩
  | _ => simp [frz] at h
end
end Go.Jv
