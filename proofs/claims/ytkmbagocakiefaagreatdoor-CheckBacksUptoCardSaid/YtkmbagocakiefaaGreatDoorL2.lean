/- Each operation of the abstract machine is the real one's: what is laid, what is read. -/
import Derived.Test.YtkmbagocakiefaaGreatDoorL1
import Derived.Laws.Append
import Derived.Laws.Tables
import Derived.Laws.Cells
import Derived.Laws.IdiomCopy
import Derived.Laws.NewBlocks
import Derived.Deep.MidRow
import Derived.Maps.AppendAt
namespace Go.Jv
def nN (n : Nat) (x : Operand) : Bool := match x with | .tmp t => decide (t < n) | .const v => v.oneCell' | _ => true
def mb (n : Nat) (o : Oper) : Bool := (o.op.operands.all (nN n)) && (match o.dst with | some t => decide (t < n) | none => true)
def di (n : Nat) : Code → Bool
 | .region _ ops _ => ops.all (mb n)
 | .seq a b => di n a && di n b
 | .cond x a b => nN n x && di n a && di n b
 | .block _ a => di n a
 | .loop a => di n a
 | _ => true
def td (n : Nat) : ResultVar → Bool
 | .tmp t => decide (t < n)
 | .cell a _ => decide (a < n)
def BJ (F : Func) : Bool := (match F.body with | some c => di F.ntmps c | none => true) && F.results.all (td F.ntmps)
def te (y : Ty) (z : Value) : Prop :=
 z.cells.size = y.size ∧ y.zero.length = y.size ∧ (∀ u ∈ z.cells, u.oneCell' = true) ∧
 (∀ (j : Nat) c, y.zero[j]? = some c → ∃ u, z.cells[j]? = some u ∧ ∀ S w B, AVR S w B c u) ∧ (isAgg y.desc = true → z = .agg z.cells) ∧ (isAgg y.desc = false → y.size = 1 ∧ ∀ cs, z ≠ .agg cs)
structure ca (P : Program) (C : Cfg) : Prop where
 ty : ∀ t y, C.ty t = some y → P.underlying t = some y.desc ∧ ∃ i z, P.info? t = some i ∧ i.size = y.size ∧ i.bytes = y.bytes ∧ i.zero = some z ∧ te y z
 fn : ∀ f F, C.fn f = some F → P.funcs[f]? = some F ∧ BJ F = true ∧ (F.name == "runtime.NumGoroutine") = false
 mixed : P.follows .mixedOrders = true
 fields : ∀ t y, C.ty t = some y → ∀ fs : Array Field, y.desc = .struct fs → ∀ f ∈ fs, (P.info? f.type).isSome = true
 eqs : ∀ t qs y, C.eqs t = some qs → C.ty t = some y → isAgg y.desc = true → ∀ (xs ys : Array Value) (ds es : List Dat) (r : Bool) (w : World) (x y : Operand),
  cM qs ds es = some r → (∀ S w, VR S w (.agg ds) (.agg xs)) → (∀ S w, VR S w (.agg es) (.agg ys)) →
  (do eqGuard .eql t x y (.agg xs) (.agg ys); binOp .eql t (.agg xs) (.agg ys)).run P w = .ok (.bool r) w ∧
  (do eqGuard .neq t x y (.agg xs) (.agg ys); binOp .neq t (.agg xs) (.agg ys)).run P w = .ok (.bool (!r)) w
section
variable {P : Program} {C : Cfg} {S0 : Nat → Prop} {L0 : Lz} {w0 : World} {S : Nat → Prop} {B : Nat → Option Pl} {H : Hs} {F : Nat → Prop} {nx : Nat} {w : World}
theorem HR.lt {id : Nat} {h : dq} (hr : HR S w B id h) (hl : h.live = true) (p : Pl) (hp : B id = some p) : p.blk < w.heap.size := by
 cases hr with
 | own xs q arr e hq hb _ => rw [hq] at hp; cases hp; exact (Array.getElem?_eq_some_iff.1 hb).1
 | ownz z hq => rw [hq] at hp; cases hp
 | immz => cases hl
 | box cs q arr e hq hb _ _ => rw [hq] at hp; cases hp; exact (Array.getElem?_eq_some_iff.1 hb).1
 | imm => cases hl
 | immb => cases hl
 | map es q arr clock hq hb _ _ => rw [hq] at hp; cases hp; exact (Array.getElem?_eq_some_iff.1 hb).1
 | dead => cases hl
theorem Mem.ext_new (hM : Mem C S0 L0 w0 S B H F w) (hF : F nx) (p : Pl) : Ext B (upd B nx (some p)) := by
 intro id q hq
 by_cases e : id = nx
 ·subst e; rw [hM.freshB _ hF] at hq; cases hq
 ·simp [upd, e, hq]
theorem jN (hlt : ∀ b, S b → b < w.heap.size) (o : Obj) : gn S w (w.alloc o) := fun b hb => heap_alloc_old w o b (hlt b hb)
theorem Mem.weak (hM : Mem C S0 L0 w0 S B H F w) {F' : Nat → Prop} (h : ∀ id, F' id → F id) : Mem C S0 L0 w0 S B H F' w :=
 ⟨hM.homes, fun id hi => hM.fresh id (h id hi), fun id hi => hM.freshB id (h id hi), hM.inj, hM.off, hM.lt, hM.glob, hM.os, hM.tape, hM.output, hM.size, hM.keep, hM.sub, hM.liveIn, hM.sIn, hM.b0, fun id hi => hM.b0F id (h id hi)⟩
theorem Mem.new (hM : Mem C S0 L0 w0 S B H F w) (hF : F nx) (o : Obj) (h : dq) (sz cap : Nat)
  (hh : HR S (w.alloc o) (upd B nx (some ⟨w.heap.size, sz, cap⟩)) nx h) :
  Mem C S0 L0 w0 S (upd B nx (some ⟨w.heap.size, sz, cap⟩)) (upd H nx h) (AF F nx (nx + 1)) (w.alloc o) := by
 have hE := hM.ext_new hF ⟨w.heap.size, sz, cap⟩
 have hs := jN (w := w) hM.lt o
 have hold : ∀ id, id ≠ nx → ∀ p, (H id).live = true → upd B nx (some ⟨w.heap.size, sz, cap⟩) id = some p → B id = some p ∧ p.blk < w.heap.size := by
  intro id hne p hl hp
  simp only [upd, hne, if_false] at hp
  exact ⟨hp, (hM.homes id).lt hl p hp⟩
 refine ⟨?_, ?_, ?_, ?_, ?_, ?_, ?_, hM.os, hM.tape, hM.output, ?_, ?_, hM.sub, ?_, hM.sIn, ?_, fun id hid => hM.b0F id hid.1⟩
 ·intro id
  by_cases e : id = nx
  ·subst e; simpa [upd] using hh
  ·simp only [upd, e, if_false]
   exact (hM.homes id).mono (fun _ hb => hb) hs hE (fun _ hn => by simp [upd, e, hn]) (fun hl p hp => heap_alloc_old w o _ ((hM.homes id).lt hl p hp))
 ·intro id hid
  have : id ≠ nx := by have := hid.2; omega
  simp [upd, this, hM.fresh id hid.1]
 ·intro id hid
  have : id ≠ nx := by have := hid.2; omega
  simp [upd, this, hM.freshB id hid.1]
 ·intro id id' p p' hl hl' hp hp' hne
  by_cases e : id = nx
  ·subst e
   have e' : id' ≠ id := fun h => hne h.symm
   simp only [upd, e', if_false] at hl'
   obtain ⟨_, h2⟩ := hold id' e' p' hl' hp'
   simp only [upd, if_true] at hp
   cases hp
   simp only; omega
  ·simp only [upd, e, if_false] at hl
   obtain ⟨h1, h2⟩ := hold id e p hl hp
   by_cases e' : id' = nx
   ·subst e'
    simp only [upd, if_true] at hp'
    cases hp'
    simp only; omega
   ·simp only [upd, e', if_false] at hl'
    exact hM.inj id id' p p' hl hl' h1 (hold id' e' p' hl' hp').1 hne
 ·intro id p hl hp hS
  by_cases e : id = nx
  ·subst e
   simp only [upd, if_true] at hp
   cases hp
   have := hM.lt _ hS
   simp only at this; omega
  ·simp only [upd, e, if_false] at hl
   exact hM.off id p hl (hold id e p hl hp).1 hS
 ·intro b hb
  have := hM.lt b hb
  simp; omega
 ·intro g cs hg
  exact (hM.glob g cs hg).mono (fun _ h => h) hs
 ·have := hM.size; simp; omega
 ·intro b hb hl
  rw [heap_alloc_old w o b (by have := hM.size; omega)]
  exact hM.keep b hb hl
 ·intro id p hl hp
  by_cases e : id = nx
  ·subst e
   simp only [upd, if_true] at hp
   cases hp
   exact .inr hM.size
  ·simp only [upd, e, if_false] at hl
   exact hM.liveIn id p hl (hold id e p hl hp).1
 ·intro id q hq
  have : id ≠ nx := fun e => by rw [e, hM.b0F _ hF] at hq; cases hq
  simp only [upd, this, if_false]
  exact hM.b0 id q hq
theorem Mem.drew (hM : Mem C S0 L0 w0 S B H F w) : Mem C S0 L0 w0 S B H F w.drew :=
 ⟨fun id => (hM.homes id).mono (fun _ h => h) (fun _ _ => rfl) (Ext.refl _) (fun _ hn => hn) (fun _ _ _ => rfl), hM.fresh, hM.freshB, hM.inj, hM.off, hM.lt,
  fun g cs hg => (hM.glob g cs hg).mono (fun _ h => h) (fun _ _ => rfl), hM.os, hM.tape, hM.output, hM.size, hM.keep, hM.sub, hM.liveIn, hM.sIn, hM.b0, hM.b0F⟩
theorem Mem.write (hM : Mem C S0 L0 w0 S B H F w) {w' : World} (id : Nat) (p : Pl) (hl : (H id).live = true) (hp : B id = some p) (h : dq)
  (hos : w'.os = w.os) (htape : w'.tape = w.tape) (hout : w'.output = w.output) (hsz : w'.heap.size = w.heap.size)
  (hother : ∀ b, b ≠ p.blk → w'.heap[b]? = w.heap[b]?) (hlive : h.live = true) (hh : HR S w' B id h) :
  Mem C S0 L0 w0 S B (upd H id h) F w' := by
 have hsame : gn S w w' := fun b hb => hother b (fun e => hM.off id p hl hp (e ▸ hb))
 have hlv : ∀ j, (upd H id h j).live = true → (H j).live = true := by
  intro j hj
  by_cases e : j = id
  ·subst e; exact hl
  ·simpa [upd, e] using hj
 refine ⟨?_, ?_, hM.freshB, ?_, ?_, ?_, ?_, hos.trans hM.os, htape.trans hM.tape, hout.trans hM.output, ?_, ?_, hM.sub, ?_, hM.sIn, hM.b0, hM.b0F⟩
 ·intro j
  by_cases e : j = id
  ·subst e; simpa [upd] using hh
  ·simp only [upd, e, if_false]
   exact (hM.homes j).mono (fun _ hb => hb) hsame (Ext.refl _) (fun _ hn => hn) (fun hl' q hq => hother _ (hM.inj j id q p hl' hl hq hp e))
 ·intro j hj
  have : j ≠ id := fun e => by
   subst e
   have := hM.fresh j hj
   rw [this] at hl; cases hl
  simp [upd, this, hM.fresh j hj]
 ·intro i j q q' hi hj hq hq' hne
  exact hM.inj i j q q' (hlv i hi) (hlv j hj) hq hq' hne
 ·intro j q hj hq
  exact hM.off j q (hlv j hj) hq
 ·intro b hb; rw [hsz]; exact hM.lt b hb
 ·intro g cs hg; exact (hM.glob g cs hg).mono (fun _ h => h) hsame
 ·rw [hsz]; exact hM.size
 ·intro b hb hnl
  rw [hother b (fun e => by
   rcases hM.liveIn id p hl hp with h1 | h1
   ·exact hnl (e ▸ h1)
   ·omega)]
  exact hM.keep b hb hnl
 ·intro j q hj hq
  exact hM.liveIn j q (hlv j hj) hq
theorem Mem.drop (hM : Mem C S0 L0 w0 S B H F w) (id : Nat) : Mem C S0 L0 w0 S B (upd H id .dead) F w := by
 have hlv : ∀ j, (upd H id .dead j).live = true → (H j).live = true ∧ upd H id .dead j = H j := by
  intro j hj
  by_cases e : j = id
  ·subst e; simp [upd, dq.live] at hj
  ·simp only [upd, e, if_false] at hj ⊢; exact ⟨hj, trivial⟩
 refine ⟨?_, ?_, hM.freshB, ?_, ?_, hM.lt, hM.glob, hM.os, hM.tape, hM.output, hM.size, hM.keep, hM.sub, ?_, hM.sIn, hM.b0, hM.b0F⟩
 ·intro j
  by_cases e : j = id
  ·subst e; simp only [upd, if_true]; exact .dead
  ·simp only [upd, e, if_false]; exact hM.homes j
 ·intro j hj
  by_cases e : j = id
  ·simp [upd, e]
  ·simp [upd, e, hM.fresh j hj]
 ·intro i j q q' hi hj hq hq' hne
  exact hM.inj i j q q' (hlv i hi).1 (hlv j hj).1 hq hq' hne
 ·intro j q hj hq; exact hM.off j q (hlv j hj).1 hq
 ·intro j q hj hq; exact hM.liveIn j q (hlv j hj).1 hq
theorem Mem.fixOwn (hM : Mem C S0 L0 w0 S B H F w) (id : Nat) (p : Pl) (hl : (H id).live = true) (hp : B id = some p) (h : dq) (hnl : h.live = false)
  (hh : HR (fun b => S b ∨ b = p.blk) w B id h) : Mem C S0 L0 w0 (fun b => S b ∨ b = p.blk) B (upd H id h) F w := by
 have hlv : ∀ j, (upd H id h j).live = true → (H j).live = true ∧ j ≠ id := by
  intro j hj
  by_cases e : j = id
  ·subst e; simp [upd, hnl] at hj
  ·exact ⟨by simpa [upd, e] using hj, e⟩
 refine ⟨?_, ?_, hM.freshB, ?_, ?_, ?_, ?_, hM.os, hM.tape, hM.output, hM.size, hM.keep, fun b hb => .inl (hM.sub b hb), ?_, ?_, hM.b0, hM.b0F⟩
 ·intro j
  by_cases e : j = id
  ·subst e; simpa [upd] using hh
  ·simp only [upd, e, if_false]
   exact (hM.homes j).mono (fun _ hb => .inl hb) (fun _ _ => rfl) (Ext.refl _) (fun _ hn => hn) (fun _ _ _ => rfl)
 ·intro j hj
  have : j ≠ id := fun e => by
   subst e
   have := hM.fresh j hj
   rw [this] at hl; cases hl
  simp [upd, this, hM.fresh j hj]
 ·intro i j q q' hi hj hq hq' hne
  exact hM.inj i j q q' (hlv i hi).1 (hlv j hj).1 hq hq' hne
 ·intro j q hj hq hS
  rcases hS with hS | hS
  ·exact hM.off j q (hlv j hj).1 hq hS
  ·exact hM.inj j id q p (hlv j hj).1 hl hq hp (hlv j hj).2 hS
 ·intro b hb
  rcases hb with hb | hb
  ·exact hM.lt b hb
  ·subst hb; exact (hM.homes id).lt hl p hp
 ·intro g cs hg; exact (hM.glob g cs hg).mono (fun _ h => .inl h) (fun _ _ => rfl)
 ·intro j q hj hq; exact hM.liveIn j q (hlv j hj).1 hq
 ·intro b hb
  rcases hb with hb | hb
  ·exact hM.sIn b hb
  ·subst hb
   exact .inr (hM.liveIn id p hl hp)
end
end Go.Jv
namespace Go.Jv
def mkV (g : Bool) (us : List Value) : Option Value :=
 if g then some (.agg us.toArray) else match us with | [u] => some u | _ => none
def bf (S : Nat → Prop) (w : World) (cs : List Dat) (us : List Value) : Prop :=
 cs.length = us.length ∧ ∀ (j : Nat) c u, cs[j]? = some c → us[j]? = some u → u.oneCell' = true ∧ VR S w c u
def dx (S : Nat → Prop) (w : World) (B : Nat → Option Pl) (cs : List AV) (us : List Value) : Prop :=
 cs.length = us.length ∧ ∀ (j : Nat) c u, cs[j]? = some c → us[j]? = some u → u.oneCell' = true ∧ AVR S w B c u
section
variable {P : Program} {C : Cfg} {S0 : Nat → Prop} {L0 : Lz} {w0 : World} {S : Nat → Prop} {B : Nat → Option Pl} {H : Hs} {F : Nat → Prop} {nx : Nat} {w : World}
theorem Jf (d : TypeDesc) : d.isRow = isAgg d := by cases d <;> rfl
theorem zZ {us : List Value} (h : ∀ (j : Nat) u, us[j]? = some u → u.oneCell' = true) : ∀ u ∈ us, u.oneCell' = true := by
 intro u hu
 obtain ⟨j, hj⟩ := List.mem_iff_getElem?.1 hu
 exact h j u hj
theorem bf.one {cs : List Dat} {us : List Value} (h : bf S w cs us) : ∀ u ∈ us, u.oneCell' = true := by
 refine zZ fun j u hu => ?_
 have hj : j < cs.length := by rw [h.1]; exact (List.getElem?_eq_some_iff.1 hu).1
 exact (h.2 j _ u (List.getElem?_eq_getElem hj) hu).1
theorem dx.one {cs : List AV} {us : List Value} (h : dx S w B cs us) : ∀ u ∈ us, u.oneCell' = true := by
 refine zZ fun j u hu => ?_
 have hj : j < cs.length := by rw [h.1]; exact (List.getElem?_eq_some_iff.1 hu).1
 exact (h.2 j _ u (List.getElem?_eq_getElem hj) hu).1
theorem bf.cut {cs : List Dat} {us : List Value} (h : bf S w cs us) {off n : Nat} {ds : List Dat} (hc : jO cs off n = some ds) : bf S w ds ((us.drop off).take n) ∧ ds.length = n ∧ off + n ≤ cs.length := by
 unfold jO at hc
 split at hc
 ·rename_i hle
  cases hc
  have hl := h.1
  refine ⟨⟨by simp [hl], fun j c u hj hu => ?_⟩, by simp; omega, hle⟩
  rw [List.getElem?_take] at hj hu
  split at hj
  ·rw [List.getElem?_drop] at hj
   simp only [List.getElem?_drop] at hu
   rename_i hjn
   simp only [hjn, if_true] at hu
   exact h.2 (off + j) c u hj hu
  ·cases hj
 ·cases hc
theorem dx.cut {cs : List AV} {us : List Value} (h : dx S w B cs us) {off n : Nat} {ds : List AV} (hc : gq cs off n = some ds) : dx S w B ds ((us.drop off).take n) ∧ ds.length = n ∧ off + n ≤ cs.length := by
 unfold gq at hc
 split at hc
 ·rename_i hle
  cases hc
  have hl := h.1
  refine ⟨⟨by simp [hl], fun j c u hj hu => ?_⟩, by simp; omega, hle⟩
  rw [List.getElem?_take] at hj hu
  split at hj
  ·rw [List.getElem?_drop] at hj
   simp only [List.getElem?_drop] at hu
   rename_i hjn
   simp only [hjn, if_true] at hu
   exact h.2 (off + j) c u hj hu
  ·cases hj
 ·cases hc
theorem bf.mk {cs : List Dat} {us : List Value} (h : bf S w cs us) {g : Bool} {x : Dat} (hx : mkD g cs = some x) : ∃ v, mkV g us = some v ∧ VR S w x v := by
 cases g with
 | true =>
  simp only [mkD, if_true] at hx
  cases hx
  refine ⟨_, by simp only [mkV, if_true], .agg cs us.toArray (by simpa using h.1) (fun u hu => h.one u (by simpa using hu)) (fun j c u hj hu => (h.2 j c u hj (by simpa using hu)).2)⟩
 | false =>
  simp only [mkD] at hx
  match cs, us, h, hx with
  | [c], [u], h, hx =>
   have e : c = x := by simpa using hx
   subst e
   exact ⟨u, by simp [mkV], (h.2 0 c u rfl rfl).2⟩
  | [c], [], h, _ => exact absurd h.1 (by simp)
  | [c], _ :: _ :: _, h, _ => exact absurd h.1 (by simp)
  | [], _, _, hx => simp at hx
  | _ :: _ :: _, _, _, hx => simp at hx
theorem dx.mk {cs : List AV} {us : List Value} (h : dx S w B cs us) {g : Bool} {x : AV} (hx : mkA g cs = some x) : ∃ v, mkV g us = some v ∧ AVR S w B x v := by
 cases g with
 | true =>
  simp only [mkA, if_true] at hx
  cases hx
  refine ⟨_, by simp only [mkV, if_true], .agg cs us.toArray (by simpa using h.1) (fun u hu => h.one u (by simpa using hu)) (fun j c u hj hu => (h.2 j c u hj (by simpa using hu)).2)⟩
 | false =>
  simp only [mkA] at hx
  match cs, us, h, hx with
  | [c], [u], h, hx =>
   have e : c = x := by simpa using hx
   subst e
   exact ⟨u, by simp [mkV], (h.2 0 c u rfl rfl).2⟩
  | [c], [], h, _ => exact absurd h.1 (by simp)
  | [c], _ :: _ :: _, h, _ => exact absurd h.1 (by simp)
  | [], _, _, hx => simp at hx
  | _ :: _ :: _, _, _, hx => simp at hx
theorem ll (V : ca P C) {t : TypeId} {y : Ty} (hy : C.ty t = some y) {b o : Nat} {us : List Value} (hr : w.rangeAt b o us) (hl : us.length = y.size) {v : Value}
  (hv : mkV (isAgg y.desc) us = some v) : (Instr.loadAt t (.pointer (some ⟨b, o, none⟩))).run P w = .ok v w := by
 obtain ⟨hu, i, z, hi, hsz, _⟩ := V.ty t y hy
 cases hg : isAgg y.desc with
 | true =>
  rw [hg] at hv
  simp only [mkV, if_true] at hv
  cases hv
  exact run_loadAt_mid w b o t us y.desc hr hu (by rw [Jf]; exact hg) (by rw [hi]; simp [hsz, hl])
 | false =>
  rw [hg] at hv
  simp only [mkV] at hv
  match us, hv, hr with
  | [u], hv, hr =>
   have e : u = v := by simpa using hv
   subst e
   have hc : w.cell? ⟨b, o, none⟩ = some u := by simpa using hr 0 u rfl
   have ha : (Go.isAgg t).run P w = .ok false w := by
    unfold Go.isAgg
    rw [Sem.run_bind, run_underlying hu w]
    cases hd : y.desc <;> simp_all [isAgg]
   simp [Instr.loadAt, Instr.sureAddr, loadVar, Sem.run_bind, ha, hc]
  | [], hv, _ => simp at hv
  | _ :: _ :: _, hv, _ => simp at hv
theorem oR {b : Nat} {arr : Array Value} {e : TypeId} {fr : Nat × Nat} (hb : w.heap[b]? = some (.cells arr e fr)) (o n : Nat) : w.rangeAt b o ((arr.toList.drop o).take n) := by
 intro j v hv
 rw [List.getElem?_take] at hv
 split at hv
 ·rw [List.getElem?_drop] at hv
  have : arr[o + j]? = some v := by simpa using hv
  simp [World.cell?, hb, this]
 ·cases hv
theorem HR.boxCells {id : Nat} {cs : List AV} (h : HR S w B id (.box cs)) : ∃ p arr e, B id = some p ∧ w.heap[p.blk]? = some (.cells arr e (0, 0)) ∧ dx S w B cs arr.toList := by
 cases h with
 | box _ p arr e hp hb hl hv =>
  refine ⟨p, arr, e, hp, hb, by simp [hl], fun j c u hj hu => ?_⟩
  obtain ⟨u', h1, h2, h3⟩ := hv j c hj
  have : u' = u := by
   have hu' : arr[j]? = some u := by simpa using hu
   rw [h1] at hu'; exact Option.some.inj hu'
  subst this
  exact ⟨h2, h3⟩
theorem HR.immbCells {id : Nat} {cs : List Dat} (h : HR S w B id (.immb cs)) : ∃ p arr e fr, B id = some p ∧ S p.blk ∧ w.heap[p.blk]? = some (.cells arr e fr) ∧ bf S w cs arr.toList := by
 cases h with
 | immb _ p arr e fr hp hS hb hl hv =>
  refine ⟨p, arr, e, fr, hp, hS, hb, by simp [hl], fun j c u hj hu => ?_⟩
  obtain ⟨u', h1, h2, h3⟩ := hv j c hj
  have : u' = u := by
   have hu' : arr[j]? = some u := by simpa using hu
   rw [h1] at hu'; exact Option.some.inj hu'
  subst this
  exact ⟨h2, h3⟩
theorem kB.elem {p : Pl} {arr : Array Value} {xs : List Dat} (h : kB S w p arr xs) {i : Nat} {x : Dat} (hx : xs[i]? = some x) :
  bf S w x.cells ((arr.toList.drop (i * p.sz)).take p.sz) ∧ x.cells.length = p.sz ∧ i * p.sz + p.sz ≤ arr.size := by
 have hi : i < xs.length := (List.getElem?_eq_some_iff.1 hx).1
 have hz := h.2.2.2.1 i x hx
 have hle : i * p.sz + p.sz ≤ arr.size := by
  rw [h.1, ← Nat.succ_mul]
  exact Nat.mul_le_mul_right _ (by have := h.2.1; omega)
 refine ⟨⟨by simp [hz]; omega, fun j c u hj hu => ?_⟩, hz, hle⟩
 obtain ⟨u', h1, h2, h3⟩ := h.2.2.2.2 i x j c hx hj
 rw [List.getElem?_take] at hu
 split at hu
 ·rw [List.getElem?_drop] at hu
  have hu' : arr[i * p.sz + j]? = some u := by simpa using hu
  rw [h1] at hu'
  obtain rfl := Option.some.inj hu'
  exact ⟨h2, h3⟩
 ·cases hu
theorem ut {α : Type} (l : List α) (a b j n : Nat) (h : j + n ≤ b) : (((l.drop a).take b).drop j).take n = (l.drop (a + j)).take n := by
 apply List.ext_getElem?
 intro k
 simp only [List.getElem?_take, List.getElem?_drop]
 by_cases hk : k < n
 ·simp only [hk, if_true]
  rw [if_pos (by omega), Nat.add_assoc]
 ·simp [hk]
theorem B9 (V : ca P C) (hM : Mem C S0 L0 w0 S B H F w) {t : TypeId} {p x : AV} {v : Value} (hp : AVR S w B p v) (h : iQ C H t p = some x) :
  ∃ u, (Instr.loadAt t v).run P w = .ok u w ∧ AVR S w B x u := by
 unfold iQ bP lP at h
 cases hy : C.ty t with
 | none => simp [hy] at h
 | some y =>
  simp only [hy, Option.map_some] at h
  cases p with
  | pt id off =>
   cases hp with
   | pt _ _ q hq =>
    have hh := hM.homes id
    cases hH : H id with
    | box cs =>
     simp only [hH] at h hh
     obtain ⟨q', arr, e, hq', hb, hc⟩ := hh.boxCells
     obtain rfl : q' = q := by rw [hq'] at hq; exact Option.some.inj hq
     obtain ⟨ds, hd, hmk⟩ := Option.bind_eq_some_iff.1 h
     obtain ⟨hcut, hn, hle⟩ := hc.cut hd
     obtain ⟨u, hu, hR⟩ := hcut.mk hmk
     exact ⟨u, ll V hy (oR hb off y.size) (by rw [← hcut.1, hn]) hu, hR⟩
    | immb cs =>
     simp only [hH] at h hh
     obtain ⟨q', arr, e, fr, hq', _, hb, hc⟩ := hh.immbCells
     obtain rfl : q' = q := by rw [hq'] at hq; exact Option.some.inj hq
     obtain ⟨x', hx', rfl⟩ := Option.map_eq_some_iff.1 h
     obtain ⟨ds, hd, hmk⟩ := Option.bind_eq_some_iff.1 hx'
     obtain ⟨hcut, hn, hle⟩ := hc.cut hd
     obtain ⟨u, hu, hR⟩ := hcut.mk hmk
     exact ⟨u, ll V hy (oR hb off y.size) (by rw [← hcut.1, hn]) hu, .d _ _ hR⟩
    | own z xs => simp [hH] at h
    | imm z xs => simp [hH] at h
    | dead => simp [hH] at h
    | map es => simp [hH] at h
  | pe id i j =>
   cases hp with
   | pe _ _ _ q hq =>
    have hh := hM.homes id
    have key : ∀ (xs : List Dat) (arr : Array Value) (e : TypeId) (fr : Nat × Nat), w.heap[q.blk]? = some (.cells arr e fr) → kB S w q arr xs →
      (match xs[i]? with | some x => ((jO x.cells j y.size).bind (mkD (isAgg y.desc))).map AV.d | none => none) = some x →
      ∃ u, (Instr.loadAt t (.pointer (some ⟨q.blk, i * q.sz + j, none⟩))).run P w = .ok u w ∧ AVR S w B x u := by
     intro xs arr e fr hb hr h
     cases hx : xs[i]? with
     | none => simp [hx] at h
     | some x1 =>
      simp only [hx] at h
      obtain ⟨x', hx', rfl⟩ := Option.map_eq_some_iff.1 h
      obtain ⟨ds, hd, hmk⟩ := Option.bind_eq_some_iff.1 hx'
      obtain ⟨he, hz, hle⟩ := hr.elem hx
      obtain ⟨hcut, hn, hle2⟩ := he.cut hd
      rw [ut _ _ _ _ _ (by omega)] at hcut
      obtain ⟨u, hu, hR⟩ := hcut.mk hmk
      exact ⟨u, ll V hy (oR hb _ y.size) (by rw [← hcut.1, hn]) hu, .d _ _ hR⟩
    cases hH : H id with
    | own z xs =>
     simp only [hH] at h hh
     cases hh with
     | ownz _ hn => simp at h
     | own _ q' arr e hq' hb hr =>
      obtain rfl : q' = q := by rw [hq'] at hq; exact Option.some.inj hq
      exact key xs arr e _ hb hr h
    | imm z xs =>
     simp only [hH] at h hh
     cases hh with
     | immz => simp at h
     | imm _ q' arr e fr hq' hS hb hr =>
      obtain rfl : q' = q := by rw [hq'] at hq; exact Option.some.inj hq
      exact key xs arr e fr hb hr h
    | box cs => simp [hH] at h
    | immb cs => simp [hH] at h
    | dead => simp [hH] at h
    | map es => simp [hH] at h
  | d x0 =>
   cases x0 with
   | ptr cs =>
    cases hp with
    | d _ _ hp =>
     cases hp with
     | ptr _ b off us hS hc ho hv =>
      simp only at h
      obtain ⟨x', hx', rfl⟩ := Option.map_eq_some_iff.1 h
      obtain ⟨ds, hd, hmk⟩ := Option.bind_eq_some_iff.1 hx'
      have hC : bf S w cs ((List.range cs.length).map us) := by
       refine ⟨by simp, fun j c u hj hu => ?_⟩
       have hjl : j < cs.length := (List.getElem?_eq_some_iff.1 hj).1
       have : us j = u := by simpa [List.getElem?_range, hjl] using hu
       subst this
       exact ⟨ho j hjl, hv j c hj⟩
      obtain ⟨hcut, hn, hle⟩ := hC.cut hd
      obtain ⟨u, hu, hR⟩ := hcut.mk hmk
      refine ⟨u, ll V hy (fun j v hj => ?_) (by rw [← hcut.1, hn]) hu, .d _ _ hR⟩
      rw [List.getElem?_take] at hj
      split at hj
      ·rename_i hjn
       rw [List.drop_zero] at hj
       have hjl : j < cs.length := by omega
       have : us j = v := by simpa [List.getElem?_range, hjl] using hj
       subst this
       exact hc j hjl
      ·cases hj
   | _ => simp at h
  | _ => simp at h
end
end Go.Jv
namespace Go.Jv
section
variable {P : Program} {C : Cfg} {S0 : Nat → Prop} {L0 : Lz} {w0 : World} {S : Nat → Prop} {B : Nat → Option Pl} {H : Hs} {F : Nat → Prop} {nx : Nat} {w : World}
theorem E3 {v : Value} (h : v.oneCell' = true) : v.cells = #[v] := by
 cases v <;> simp_all [Value.oneCell', Value.cells]
theorem VR.cellsOk {x : Dat} {v : Value} (h : VR S w x v) (hk : (x.cells.map AV.d).all okC = true) : bf S w x.cells v.cells.toList := by
 cases h with
 | agg cs vs hl ho hv =>
  refine ⟨by simp [Dat.cells, Value.cells, hl], fun j c u hj hu => ?_⟩
  have hu' : vs[j]? = some u := by simpa [Value.cells] using hu
  exact ⟨ho u (Array.mem_of_getElem? hu'), hv j c u hj hu'⟩
 | cst v h =>
  rw [E3 h]
  refine ⟨rfl, fun j c u hj hu => ?_⟩
  match j with
  | 0 =>
   simp only [Dat.cells, List.getElem?_cons_zero, Option.some.injEq] at hj hu
   subst hj; subst hu
   exact ⟨h, .cst v h⟩
  | j + 1 => simp [Dat.cells] at hj
 | _ =>
  refine ⟨rfl, fun j c u hj hu => ?_⟩
  match j with
  | 0 =>
   simp only [Dat.cells, Value.cells, List.getElem?_cons_zero, Option.some.injEq] at hj hu
   first
    | (subst hj; subst hu; exact ⟨by first | rfl | assumption, by constructor <;> assumption⟩)
    | (subst hj; subst hu; exact ⟨by first | rfl | assumption, by constructor⟩)
  | j + 1 => simp [Dat.cells] at hj
theorem AVR.cellsOk {x : AV} {v : Value} (h : AVR S w B x v) (hk : x.cells.all okC = true) : dx S w B x.cells v.cells.toList := by
 cases h with
 | agg cs vs hl ho hv =>
  refine ⟨by simp [AV.cells, Value.cells, hl], fun j c u hj hu => ?_⟩
  have hu' : vs[j]? = some u := by simpa [Value.cells] using hu
  exact ⟨ho u (Array.mem_of_getElem? hu'), hv j c u hj hu'⟩
 | d x v h =>
  have := h.cellsOk hk
  refine ⟨by simp [AV.cells, this.1], fun j c u hj hu => ?_⟩
  simp only [AV.cells, List.getElem?_map, Option.map_eq_some_iff] at hj
  obtain ⟨c', hc', rfl⟩ := hj
  obtain ⟨h1, h2⟩ := this.2 j c' u hc' hu
  exact ⟨h1, .d _ _ h2⟩
 | tup => simp [AV.cells, okC] at hk
 | undef => simp [AV.cells, okC] at hk
 | bad => simp [AV.cells, okC] at hk
 | mp id p hp =>
  refine ⟨rfl, fun j c u hj hu => ?_⟩
  match j with
  | 0 => simp [AV.cells, Value.cells] at hj hu; subst hj; subst hu; exact ⟨rfl, .mp id p hp⟩
  | j + 1 => simp [AV.cells] at hj
 | nil =>
  refine ⟨rfl, fun j c u hj hu => ?_⟩
  match j with
  | 0 => simp [AV.cells, Value.cells] at hj hu; subst hj; subst hu; exact ⟨rfl, .nil⟩
  | j + 1 => simp [AV.cells] at hj
 | slz id =>
  refine ⟨rfl, fun j c u hj hu => ?_⟩
  match j with
  | 0 => simp [AV.cells, Value.cells] at hj hu; subst hj; subst hu; exact ⟨rfl, .slz id⟩
  | j + 1 => simp [AV.cells] at hj
 | sl id lo hi p hp h1 h2 h3 hm =>
  refine ⟨rfl, fun j c u hj hu => ?_⟩
  match j with
  | 0 => simp [AV.cells, Value.cells] at hj hu; subst hj; subst hu; exact ⟨rfl, .sl id lo hi p hp h1 h2 h3 hm⟩
  | j + 1 => simp [AV.cells] at hj
 | sle id lo off c p hp h hm =>
  refine ⟨rfl, fun j c u hj hu => ?_⟩
  match j with
  | 0 => simp [AV.cells, Value.cells] at hj hu; subst hj; subst hu; exact ⟨rfl, .sle id lo off _ p hp h hm⟩
  | j + 1 => simp [AV.cells] at hj
 | pt id off p hp =>
  refine ⟨rfl, fun j c u hj hu => ?_⟩
  match j with
  | 0 => simp [AV.cells, Value.cells] at hj hu; subst hj; subst hu; exact ⟨rfl, .pt id off p hp⟩
  | j + 1 => simp [AV.cells] at hj
 | pe id i k p hp =>
  refine ⟨rfl, fun j c u hj hu => ?_⟩
  match j with
  | 0 => simp [AV.cells, Value.cells] at hj hu; subst hj; subst hu; exact ⟨rfl, .pe id i k p hp⟩
  | j + 1 => simp [AV.cells] at hj
 | fn f cs vs hl hv =>
  refine ⟨rfl, fun j c u hj hu => ?_⟩
  match j with
  | 0 => simp [AV.cells, Value.cells] at hj hu; subst hj; subst hu; exact ⟨rfl, .fn f cs vs hl hv⟩
  | j + 1 => simp [AV.cells] at hj
theorem tA (V : ca P C) {t : TypeId} {y : Ty} (hy : C.ty t = some y) {b o : Nat} {arr : Array Value} {e : TypeId} (hb : w.heap[b]? = some (.cells arr e (0, 0)))
  {v : Value} (hl : v.cells.size = y.size) (hfit : o + y.size ≤ arr.size) (h1 : ∀ u ∈ v.cells.toList, u.oneCell' = true) :
  (Instr.storeAt t (.pointer (some ⟨b, o, none⟩)) v).run P w = .ok () (w.setRow b (cC arr.toList o v.cells.toList).toArray) := by
 obtain ⟨hu, i, z, hi, hsz, _⟩ := V.ty t y hy
 have hst := run_storeCells_at (P := P) b o e v.cells.toList 0 arr w hb (by simp; omega) h1
 simp only [Nat.add_zero] at hst
 have hs : v.cells.size = i.size := by omega
 simp [Instr.storeAt, Instr.sureAddr, storeVar, sizeOf, typeInfo, hi, hs, hst, cC]
theorem hY {α : Type} (cs : List α) (off : Nat) (new : List α) (h : off + new.length ≤ cs.length) : (cC cs off new).length = cs.length := by
 simp [cC]; omega
theorem gR {α : Type} (cs : List α) (off : Nat) (new : List α) (h : off + new.length ≤ cs.length) (j : Nat) :
  (cC cs off new)[j]? = if j < off then cs[j]? else if j < off + new.length then new[j - off]? else cs[j]? := by
 unfold cC
 by_cases h1 : j < off
 ·rw [if_pos h1, List.append_assoc, List.getElem?_append_left (by simp; omega), List.getElem?_take, if_pos h1]
 ·rw [if_neg h1]
  by_cases h2 : j < off + new.length
  ·rw [if_pos h2, List.getElem?_append_left (by simp; omega), List.getElem?_append_right (by simp; omega)]
   congr 1
   simp; omega
  ·rw [if_neg h2, List.getElem?_append_right (by simp; omega), List.getElem?_drop]
   congr 1
   simp; omega
theorem dx.put {cs new : List AV} {us vs : List Value} (h : dx S w B cs us) (hn : dx S w B new vs) (off : Nat) (hle : off + new.length ≤ cs.length) : dx S w B (cC cs off new) (cC us off vs) := by
 have h1 := h.1
 have h2 := hn.1
 refine ⟨by rw [hY _ _ _ hle, hY _ _ _ (by omega), h1], fun j c u hj hu => ?_⟩
 rw [gR _ _ _ hle] at hj
 rw [gR _ _ _ (by omega)] at hu
 by_cases a : j < off
 ·rw [if_pos a] at hj hu; exact h.2 j c u hj hu
 ·rw [if_neg a] at hj hu
  by_cases b : j < off + new.length
  ·rw [if_pos b] at hj; rw [if_pos (by omega)] at hu; exact hn.2 _ c u hj hu
  ·rw [if_neg b] at hj; rw [if_neg (by omega)] at hu; exact h.2 j c u hj hu
theorem bf.put {cs new : List Dat} {us vs : List Value} (h : bf S w cs us) (hn : bf S w new vs) (off : Nat) (hle : off + new.length ≤ cs.length) : bf S w (cC cs off new) (cC us off vs) := by
 have h1 := h.1
 have h2 := hn.1
 refine ⟨by rw [hY _ _ _ hle, hY _ _ _ (by omega), h1], fun j c u hj hu => ?_⟩
 rw [gR _ _ _ hle] at hj
 rw [gR _ _ _ (by omega)] at hu
 by_cases a : j < off
 ·rw [if_pos a] at hj hu; exact h.2 j c u hj hu
 ·rw [if_neg a] at hj hu
  by_cases b : j < off + new.length
  ·rw [if_pos b] at hj; rw [if_pos (by omega)] at hu; exact hn.2 _ c u hj hu
  ·rw [if_neg b] at hj; rw [if_neg (by omega)] at hu; exact h.2 j c u hj hu
theorem dx.mono {S' : Nat → Prop} {w' : World} {B' : Nat → Option Pl} {cs : List AV} {us : List Value} (h : dx S w B cs us) (hS : ∀ b, S b → S' b) (hw : gn S w w') (hB : Ext B B') : dx S' w' B' cs us :=
 ⟨h.1, fun j c u hj hu => ⟨(h.2 j c u hj hu).1, (h.2 j c u hj hu).2.mono hS hw hB⟩⟩
theorem bf.mono {S' : Nat → Prop} {w' : World} {cs : List Dat} {us : List Value} (h : bf S w cs us) (hS : ∀ b, S b → S' b) (hw : gn S w w') : bf S' w' cs us :=
 ⟨h.1, fun j c u hj hu => ⟨(h.2 j c u hj hu).1, (h.2 j c u hj hu).2.mono hS hw⟩⟩
theorem HR.mkBox {id : Nat} {cs : List AV} {p : Pl} {arr : Array Value} {e : TypeId} (hp : B id = some p) (hb : w.heap[p.blk]? = some (.cells arr e (0, 0))) (hc : dx S w B cs arr.toList) : HR S w B id (.box cs) := by
 refine .box cs p arr e hp hb (by simpa using hc.1.symm) fun j c hj => ?_
 have hjl : j < arr.size := by
  have := (List.getElem?_eq_some_iff.1 hj).1
  have := hc.1
  simp at this; omega
 have hu : arr.toList[j]? = some arr[j] := by simp [hjl]
 exact ⟨arr[j], by simp [hjl], (hc.2 j c _ hj hu).1, (hc.2 j c _ hj hu).2⟩
theorem pL {b : Nat} (hb : ¬ S b) (cs : Array Value) : gn S w (w.setRow b cs) := fun k hk => setRow_other w b k cs (fun e => hb (e ▸ hk))
theorem Mem.setBox (hM : Mem C S0 L0 w0 S B H F w) {id : Nat} {cs : List AV} (hH : H id = .box cs) {p : Pl} {arr : Array Value} {e : TypeId} (hp : B id = some p) (hb : w.heap[p.blk]? = some (.cells arr e (0, 0)))
  {cs' : List AV} {arr' : Array Value} (hc : dx S w B cs' arr'.toList) : Mem C S0 L0 w0 S B (upd H id (.box cs')) F (w.setRow p.blk arr') := by
 have hl : (H id).live = true := by rw [hH]; rfl
 have hoff := hM.off id p hl hp
 exact hM.write id p hl hp (.box cs') rfl rfl rfl (by simp) (fun b hb' => setRow_other w _ _ _ hb') rfl
  (HR.mkBox hp (setRow_heap w _ arr arr' e (0, 0) hb) (hc.mono (fun _ h => h) (pL hoff arr') (Ext.refl _)))
theorem GO {p : Pl} {arr : Array Value} {xs : List Dat} (h : kB S w p arr xs) {i : Nat} {x y : Dat} (hx : xs[i]? = some x) {us : List Value} (hy : bf S w y.cells us) (hl : y.cells.length = p.sz) :
  kB S w p (cC arr.toList (i * p.sz) us).toArray (xs.set i y) := by
 obtain ⟨he, hz, hle⟩ := h.elem hx
 have hi : i < xs.length := (List.getElem?_eq_some_iff.1 hx).1
 have hul : us.length = p.sz := by rw [← hy.1, hl]
 have hfit : i * p.sz + us.length ≤ arr.toList.length := by simp; omega
 refine ⟨by simp only [List.size_toArray]; rw [hY _ _ _ hfit]; simpa using h.1, by simpa using h.2.1, h.2.2.1, ?_, ?_⟩
 ·intro k z hk
  by_cases e : i = k
  ·subst e; rw [List.getElem?_set_self hi] at hk; cases hk; exact hl
  ·rw [List.getElem?_set_ne e] at hk; exact h.2.2.2.1 k z hk
 ·intro k z j c hk hj
  have hjl : j < p.sz := by
   have := (List.getElem?_eq_some_iff.1 hj).1
   by_cases e : i = k
   ·subst e; rw [List.getElem?_set_self hi] at hk; cases hk; omega
   ·rw [List.getElem?_set_ne e] at hk; have := h.2.2.2.1 k z hk; omega
  rw [List.getElem?_toArray, gR _ _ _ hfit]
  by_cases e : i = k
  ·subst e
   rw [List.getElem?_set_self hi] at hk
   cases hk
   rw [if_neg (by omega), if_pos (by omega), show i * p.sz + j - i * p.sz = j by omega]
   have hju : j < us.length := by omega
   have := hy.2 j c _ hj (List.getElem?_eq_getElem hju)
   exact ⟨us[j], List.getElem?_eq_getElem hju, this.1, this.2⟩
  ·rw [List.getElem?_set_ne e] at hk
   obtain ⟨u, h1, h2, h3⟩ := h.2.2.2.2 k z j c hk hj
   refine ⟨u, ?_, h2, h3⟩
   have hne : ¬ (i * p.sz ≤ k * p.sz + j ∧ k * p.sz + j < i * p.sz + us.length) := by
    rintro ⟨a1, a2⟩
    rcases Nat.lt_or_gt_of_ne e with hlt | hlt
    ·have : (i + 1) * p.sz ≤ k * p.sz := Nat.mul_le_mul_right _ hlt
     rw [Nat.succ_mul] at this; omega
    ·have : (k + 1) * p.sz ≤ i * p.sz := Nat.mul_le_mul_right _ hlt
     rw [Nat.succ_mul] at this; omega
   by_cases a1 : k * p.sz + j < i * p.sz
   ·rw [if_pos a1]; simpa using h1
   ·rw [if_neg a1, if_neg (by omega)]; simpa using h1
theorem IV {α : Type} (l : List α) (a j : Nat) (m : List α) (n : Nat) (hj : j + m.length ≤ n) (hn : a + n ≤ l.length) : cC l a (cC ((l.drop a).take n) j m) = cC l (a + j) m := by
 have hlen : ((l.drop a).take n).length = n := by simp; omega
 apply List.ext_getElem?
 intro k
 have hin : (cC ((l.drop a).take n) j m).length = n := by rw [hY _ _ _ (by omega), hlen]
 rw [gR l a (cC ((l.drop a).take n) j m) (by omega), gR l (a + j) m (by omega)]
 by_cases h1 : k < a
 ·rw [if_pos h1, if_pos (by omega)]
 ·rw [if_neg h1, hin]
  by_cases h2 : k < a + n
  ·rw [if_pos h2, gR ((l.drop a).take n) j m (by omega)]
   by_cases h3 : k - a < j
   ·rw [if_pos h3]
    rw [if_pos (show k < a + j by omega), List.getElem?_take, if_pos (show k - a < n by omega), List.getElem?_drop, show a + (k - a) = k by omega]
   ·rw [if_neg h3]
    rw [if_neg (show ¬ k < a + j by omega)]
    by_cases h4 : k - a < j + m.length
    ·rw [if_pos h4]
     rw [if_pos (show k < a + j + m.length by omega), show k - a - j = k - (a + j) by omega]
    ·rw [if_neg h4]
     rw [if_neg (show ¬ k < a + j + m.length by omega), List.getElem?_take, if_pos (show k - a < n by omega), List.getElem?_drop, show a + (k - a) = k by omega]
  ·rw [if_neg h2, if_neg (by omega), if_neg (by omega)]
theorem Mem.setOwn (hM : Mem C S0 L0 w0 S B H F w) {id : Nat} {z : Row} {xs : List Dat} (hH : H id = .own z xs) {p : Pl} {arr : Array Value} {e : TypeId} (hp : B id = some p) (hb : w.heap[p.blk]? = some (.cells arr e (0, 0)))
  {xs' : List Dat} {arr' : Array Value} (hr : kB S w p arr' xs') : Mem C S0 L0 w0 S B (upd H id (.own ⟨e, p.sz⟩ xs')) F (w.setRow p.blk arr') := by
 have hl : (H id).live = true := by rw [hH]; rfl
 have hoff := hM.off id p hl hp
 exact hM.write id p hl hp (.own ⟨e, p.sz⟩ xs') rfl rfl rfl (by simp) (fun b hb' => setRow_other w _ _ _ hb') rfl
  (.own xs' p arr' e hp (setRow_heap w _ arr arr' e (0, 0) hb) (hr.mono (fun _ h => h) (pL hoff arr')))
theorem jT {v : AV} {x : Dat} {val : Value} (h : AVR S w B v val) (hx : dN v = some x) : VR S w x val := by
 have key : ∀ (cs : List AV) (xs : List Dat), ck (fun | .d x => some x | .nil => some (.lst []) | _ => none) cs = some xs → cs.length = xs.length ∧ ∀ (j : Nat) c u, xs[j]? = some c → (∀ a, cs[j]? = some a → AVR S w B a u) → VR S w c u := by
  intro cs
  induction cs with
  | nil => intro xs hxs; simp [ck] at hxs; subst hxs; exact ⟨rfl, fun j c u hj _ => by simp at hj⟩
  | cons a cs ih =>
   intro xs hxs
   simp only [ck] at hxs
   split at hxs
   ·rename_i x0 xs0 h1 h2
    cases hxs
    obtain ⟨hl, hv⟩ := ih xs0 h2
    refine ⟨by simp [hl], fun j c u hj hu => ?_⟩
    match j with
    | 0 =>
     simp only [List.getElem?_cons_zero, Option.some.injEq] at hj
     subst hj
     have ha := hu a rfl
     cases a <;> simp at h1
     ·subst h1; cases ha with | d _ _ ha => exact ha
     ·subst h1; cases ha; exact .nil
    | j + 1 => exact hv j c u (by simpa using hj) (fun a' ha' => hu a' (by simpa using ha'))
   ·cases hxs
 cases v with
 | d x0 => simp [dN] at hx; subst hx; cases h with | d _ _ h => exact h
 | nil => simp [dN] at hx; subst hx; cases h; exact .nil
 | agg cs =>
  simp only [dN, Option.map_eq_some_iff] at hx
  obtain ⟨xs, hxs, rfl⟩ := hx
  cases h with
  | agg _ vs hl ho hv =>
   obtain ⟨hl', hk⟩ := key cs xs hxs
   refine .agg xs vs (by omega) ho (fun j c u hj hu => hk j c u hj (fun a ha => hv j a u ha hu))
 | _ => simp [dN] at hx
theorem Gr (V : ca P C) (hM : Mem C S0 L0 w0 S B H F w) {t : TypeId} {p v : AV} {pv val : Value} (hp : AVR S w B p pv) (hv : AVR S w B v val) {H1 : Hs} (h : ke C H t p v = some H1) :
  ∃ w1, (Instr.storeAt t pv val).run P w = .ok () w1 ∧ Mem C S0 L0 w0 S B H1 F w1 ∧ gn S w w1 := by
 unfold ke bP at h
 cases hy : C.ty t with
 | none => simp [hy] at h
 | some y =>
  simp only [hy, Option.map_some] at h
  cases p with
  | pt id off =>
   cases hp with
   | pt _ _ q hq =>
    have hh := hM.homes id
    cases hH : H id with
    | box cs =>
     simp only [hH] at h hh
     split at h
     ·rename_i hc
      obtain ⟨hl, hk, hle⟩ := hc
      cases h
      obtain ⟨q', arr, e, hq', hb, hcs⟩ := hh.boxCells
      obtain rfl : q' = q := by rw [hq'] at hq; exact Option.some.inj hq
      have hcv := hv.cellsOk hk
      have hlen := hcs.1
      refine ⟨_, tA V hy hb (by have := hcv.1; simp at this; omega) (by simp at hlen; omega) hcv.one, ?_, ?_⟩
      ·exact hM.setBox hH hq hb (by simpa using hcs.put hcv off (by omega))
      ·exact pL (hM.off id _ (by rw [hH]; rfl) hq) _
     ·cases h
    | _ => simp [hH] at h
  | pe id i j =>
   cases hp with
   | pe _ _ _ q hq =>
    have hh := hM.homes id
    cases hx : dN v with
    | none => simp [hx] at h
    | some x =>
     cases hH : H id with
     | own z xs =>
      simp only [hH, hx] at h hh
      cases hy0 : xs[i]? with
      | none => simp [hy0] at h
      | some y0 =>
       simp only [hy0] at h
       split at h
       ·rename_i hc
        obtain ⟨hl, hk, hle⟩ := hc
        have hcv := (jT hv hx).cellsOk hk
        cases hh with
        | ownz _ hn => simp at hy0
        | own _ q' arr e hq' hb hr =>
         obtain rfl : q' = q := by rw [hq'] at hq; exact Option.some.inj hq
         obtain ⟨he, hz, hle2⟩ := hr.elem hy0
         have hvl : val.cells.toList.length = y.size := by rw [← hcv.1, hl]
         have hvs : val.cells.size = y.size := by simpa using hvl
         have hrun := tA (w := w) V hy hb (o := i * q'.sz + j) hvs (by omega) hcv.one
         refine ⟨_, hrun, ?_, pL (hM.off id _ (by rw [hH]; rfl) hq) _⟩
         have hput : cC arr.toList (i * q'.sz + j) val.cells.toList = cC arr.toList (i * q'.sz) (cC ((arr.toList.drop (i * q'.sz)).take q'.sz) j val.cells.toList) :=
          (IV arr.toList (i * q'.sz) j val.cells.toList q'.sz (by omega) (by simpa using hle2)).symm
         rw [hput]
         cases y0 with
         | agg cs =>
          simp only at h
          cases h
          have hle' : j + x.cells.length ≤ (Dat.agg cs).cells.length := by omega
          refine hM.setOwn hH hq hb (GO hr hy0 (y := .agg (cC cs j x.cells)) ?_ ?_)
          ·exact he.put hcv j hle'
          ·have e1 : (Dat.agg (cC cs j x.cells)).cells = cC cs j x.cells := rfl
           rw [e1, hY cs j x.cells hle']
           exact hz
         | _ =>
          all_goals
           simp only at h
           split at h
           ·rename_i c hxc
            cases h
            have hz' : q'.sz = 1 := by simpa [Dat.cells] using hz.symm
            have hj0 : j = 0 := by simp only [Dat.cells, List.length_singleton] at hle; simp only [hxc, List.length_singleton] at hl; omega
            have hcc : c.cells = [c] := by
             have := hk
             rw [hxc] at this
             cases c <;> first | rfl | (simp [okC] at this)
            subst hj0
            have hul : val.cells.toList.length = 1 := by rw [← hcv.1, hxc]; rfl
            have hpp : cC ((arr.toList.drop (i * q'.sz)).take q'.sz) 0 val.cells.toList = val.cells.toList := by
             unfold cC
             simp only [List.take_zero, List.nil_append, Nat.zero_add]
             rw [List.drop_of_length_le (by simp; omega), List.append_nil]
            rw [hpp]
            refine hM.setOwn hH hq hb (GO hr hy0 (y := c) ?_ (by rw [hcc]; simpa using hz'.symm))
            rw [hcc, ← hxc]
            exact hcv
           ·cases h
       ·cases h
     | _ => simp [hH, hx] at h
  | _ => simp at h
end
end Go.Jv
