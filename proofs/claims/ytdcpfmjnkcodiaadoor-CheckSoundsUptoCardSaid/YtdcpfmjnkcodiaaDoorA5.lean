/- What the abstract machine says of a call, of an operation. -/
import Derived.Test.YtdcpfmjnkcodiaaDoorA4
namespace Go.Jv
structure Grew (S : Nat → Prop) (w : World) (S1 : Nat → Prop) (w1 : World) : Prop where
 sub : ∀ b, S b → S1 b
 sIn : ∀ b, S1 b → S b ∨ w.heap.size ≤ b
 lt : ∀ b, S1 b → b < w1.heap.size
 keep : ∀ b, b < w.heap.size → w1.heap[b]? = w.heap[b]?
 size : w.heap.size ≤ w1.heap.size
 os : w1.os = w.os
 tape : w1.tape = w.tape
 output : w1.output = w.output
def noB : Nat → Option Pl := fun _ => none
def Enters (P : Program) (f : FuncId) : Prop := ∃ F, P.funcs[f]? = some F ∧ F.body.isNone = false ∧ (F.name == "runtime.NumGoroutine") = false
def Rets (R : Value → World → Prop) : Ending → World → Prop
 | .returned v, w => R v w
 | _, _ => False
def DEnter (P : Program) (C : Cfg) (f : FuncId) (xs rs : List Dat) : Prop :=
 Enters P f ∧ ∀ (S : Nat → Prop) (w : World) (args : Array Value), (∀ b, S b → b < w.heap.size) → (∀ g cs, C.glob g = some cs → VR S w (.ptr cs) (.pointer (some ⟨g, 0, none⟩))) →
  args.size = xs.length → (∀ (i : Nat) x u, xs[i]? = some x → args[i]? = some u → VR S w x u) →
  Calls P f args w (Rets fun v w1 => ∃ S1, Grew S w S1 w1 ∧ AVR S1 w1 noB (tupA (rs.map .d)) v)
def Native (P : Program) (f : FuncId) (xs rs : List Dat) : Prop :=
 ∀ (S : Nat → Prop) (w : World) (args : Array Value), args.size = xs.length → (∀ (i : Nat) x u, xs[i]? = some x → args[i]? = some u → VR S w x u) →
  (∃ G, P.funcs[f]? = some G) ∧ ∃ v, (callFunc f args).run P w = .ok (.value v) w ∧ AVR S w noB (tupA (rs.map .d)) v
def DSound (P : Program) (C : Cfg) (f : FuncId) (xs rs : List Dat) : Prop :=
 (C.ext f xs = none ∧ DEnter P C f xs rs) ∨ (C.ext f xs = some rs ∧ Native P f xs rs)
def RSound (P : Program) (C : Cfg) (f : FuncId) (vs : List AV) (H : Hs) (nx : Nat) (r : List AV × Hs × Nat) : Prop :=
 Enters P f ∧ nx ≤ r.2.2 ∧ (∀ id, id < nx → H id = .dead → r.2.1 id = .dead) ∧ ∀ (S0 : Nat → Prop) (L0 : Lz) (w0 : World) (S : Nat → Prop) (B : Nat → Option Pl) (w : World) (args : Array Value), Mem C S0 L0 w0 S B H (fun id => nx ≤ id) w →
  args.size = vs.length → (∀ (i : Nat) x u, vs[i]? = some x → args[i]? = some u → AVR S w B x u) →
  Calls P f args w (Rets fun v w1 => ∃ S1 B1, AVR S1 w1 B1 (tupA r.1) v ∧ Mem C S0 L0 w0 S1 B1 r.2.1 (fun id => r.2.2 ≤ id) w1 ∧ (∀ b, S b → S1 b) ∧ Same S w w1 ∧ Ext B B1)
def OpSound (P : Program) (C : Cfg) (e : Operand → AV) (o : Op) (H : Hs) (nx : Nat) (r : AV × Hs × Nat) (f : Ft) : Prop :=
 nx ≤ r.2.2 ∧ (∀ id, id < nx → H id = .dead → r.2.1 id = .dead) ∧ ((∀ id, ¬ f.md id) → r.2.2 = nx) ∧ ∀ (e' : Operand → AV) (H' : Hs), (∀ x ∈ o.operands, e' x = e x) → (∀ id, f.looks id ∨ f.mods id → H' id = H id) →
  ∃ H1', Local f H H' r.2.1 H1' ∧
  ∀ {S0 : Nat → Prop} {L0 : Lz} {w0 : World} {S : Nat → Prop} {B : Nat → Option Pl} {F : Nat → Prop} {w : World} (a : Act) (oper : Oper), oper.op = o → Mem C S0 L0 w0 S B H' F w →
   (∀ x ∈ o.operands, AVR S w B (e' x) (a.eval x)) → (∀ id, nx ≤ id → id < r.2.2 → F id) → ((∀ id, f.md id) → ∀ id, F id ↔ nx ≤ id) →
   ∀ (K : Act → World → Prop) (Q : Exit → Act → World → Prop),
    (∀ val w1 S1 B1, AVR S1 w1 B1 r.1 val → Mem C S0 L0 w0 S1 B1 H1' (took F nx r.2.2) w1 → (∀ b, S b → S1 b) → Same S w w1 → Ext B B1 → K (a.put oper.dst val) w1) →
    oper.wp P a w K Q
def wholeFt : Ft := ⟨fun _ => True, fun _ => True⟩
section
variable {P : Program} {C : Cfg} {S0 : Nat → Prop} {L0 : Lz} {w0 : World} {S : Nat → Prop} {B : Nat → Option Pl} {H : Hs} {F : Nat → Prop} {nx : Nat} {w : World}
theorem Calls.mono' {f : FuncId} {args : Array Value} {R R' : Ending → World → Prop} (h : Calls P f args w R) (hr : ∀ e w, R e w → R' e w) : Calls P f args w R' :=
 fun cs => let ⟨e, w', fr, h1, h2⟩ := h cs; ⟨e, w', fr, hr _ _ h1, h2⟩
theorem act_next {e : Operand → AV} {o : Op} {x : AV} {H1 : Hs} {n1 : Nat} (h : act C H nx e o = some (x, H1, n1)) : nx ≤ n1 := by
 by_cases hq : quietOp o = true
 ·exact Nat.le_of_eq (act_quiet hq h H).2.1.symm
 ·cases o with
  | makeSlice t l c => simp only [act] at h; obtain ⟨y, hy, h⟩ := Option.map_eq_some_iff.1 h; cases h; omega
  | makeMap t r =>
   simp only [act] at h
   split at h <;> cases h
   omega
  | lookup t m x ok => exact Nat.le_of_eq (map_pure h H).2.1.symm
  | mapUpdate t m x v =>
   simp only [act] at h
   obtain ⟨H2, h2, he⟩ := Option.map_eq_some_iff.1 h
   cases he
   omega
  | alloc t => simp only [act] at h; obtain ⟨y, hy, h⟩ := Option.bind_eq_some_iff.1 h; cases h; omega
  | box t a =>
   simp only [act] at h
   obtain ⟨y, hy, h⟩ := Option.bind_eq_some_iff.1 h
   split at h <;> cases h
   omega
  | buildSlice t len ps =>
   simp only [act] at h
   split at h <;> try cases h
   split at h <;> try cases h
   split at h <;> try cases h
   split at h <;> cases h
   omega
  | load t p => exact Nat.le_of_eq (map_pure h H).2.1.symm
  | slice t p lo hi mx => exact Nat.le_of_eq (map_pure h H).2.1.symm
  | indexAddr t p i => exact Nat.le_of_eq (map_pure h H).2.1.symm
  | store t p v =>
   simp only [act] at h
   obtain ⟨H2, h2, he⟩ := Option.map_eq_some_iff.1 h
   cases he
   omega
  | call c =>
   obtain ⟨callee, args, ats⟩ := c
   simp only [act] at h
   split at h
   ·simp [quietOp] at hq
   ·split at h
    ·rw [appendA_next h]; omega
    ·cases h
   ·simp [quietOp] at hq
   ·simp [quietOp] at hq
   ·cases h
  | _ => first | (simp [quietOp] at hq; done) | simp [act] at h
theorem act_next0 {e : Operand → AV} {o : Op} {x : AV} {H1 : Hs} {n1 : Nat} (h : act C H nx e o = some (x, H1, n1)) (h0 : ∀ id, ¬ (footA C H nx n1 e o).md id) : n1 = nx := by
 by_cases hq : quietOp o = true
 ·exact (act_quiet hq h H).2.1
 ·cases o with
  | load t p => exact (map_pure h H).2.1
  | slice t p lo hi mx => exact (map_pure h H).2.1
  | indexAddr t p i => exact (map_pure h H).2.1
  | store t p v =>
   simp only [act] at h
   obtain ⟨H2, h2, he⟩ := Option.map_eq_some_iff.1 h
   cases he
   rfl
  | buildSlice t n ps =>
   exfalso
   have := h0 nx
   simp only [footA] at this
   split at this <;> simp [Ft.of] at this
  | lookup t m x ok => exact (map_pure h H).2.1
  | mapUpdate t m x v =>
   simp only [act] at h
   obtain ⟨H2, h2, he⟩ := Option.map_eq_some_iff.1 h
   cases he
   rfl
  | call c =>
   obtain ⟨callee, args, ats⟩ := c
   simp only [act] at h
   split at h
   ·simp [quietOp] at hq
   ·exfalso
    have := h0 nx
    simp only [footA] at this
    split at this <;> simp [Ft.of] at this
   ·simp [quietOp] at hq
   ·simp [quietOp] at hq
   ·cases h
  | _ => first | (simp [quietOp] at hq; done) | (simp [act] at h; done) | exact absurd rfl (h0 nx) | (exfalso; have := h0 nx; simp [footA, Ft.of] at this)
theorem frz_dead : ∀ (n : Nat) {H : Hs} {v : AV} {x : Dat} {H1 : Hs}, frz n H v = some (x, H1) → ∀ id, H id = .dead → H1 id = .dead
 | 0, _, _, _, _, h => by simp [frz] at h
 | n + 1, H, v, x, H1, h => by
  have list : ∀ (cs : List AV) {H : Hs} {xs : List Dat} {H1 : Hs}, frzL (frz n) H cs = some (xs, H1) → ∀ id, H id = .dead → H1 id = .dead := by
   intro cs
   induction cs with
   | nil => intro H xs H1 h id hid; simp only [frzL, Option.some.injEq, Prod.mk.injEq] at h; rw [← h.2]; exact hid
   | cons c cs ihl =>
    intro H xs H1 h id hid
    simp only [frzL] at h
    split at h
    ·cases h
    ·rename_i x0 H2 h0
     split at h
     ·rename_i xs0 H3 h1
      cases h
      exact ihl h1 id (frz_dead n h0 id hid)
     ·cases h
  intro id hid
  cases v with
  | d x0 => simp only [frz, Option.some.injEq, Prod.mk.injEq] at h; rw [← h.2]; exact hid
  | nil => simp only [frz, Option.some.injEq, Prod.mk.injEq] at h; rw [← h.2]; exact hid
  | sl j lo hi =>
   simp only [frz] at h
   split at h
   ·rename_i z xs hj
    split at h
    ·simp only [Option.some.injEq, Prod.mk.injEq] at h
     rw [← h.2]
     have : id ≠ j := fun e => by rw [e, hj] at hid; cases hid
     simp [upd, this, hid]
    ·cases h
   ·split at h
    ·simp only [Option.some.injEq, Prod.mk.injEq] at h; rw [← h.2]; exact hid
    ·cases h
   ·cases h
  | pt j off =>
   simp only [frz] at h
   split at h
   ·simp only [Option.some.injEq, Prod.mk.injEq] at h; rw [← h.2]; exact hid
   ·rename_i cs hj
    split at h
    ·rename_i xs H2 h2
     split at h
     ·simp only [Option.some.injEq, Prod.mk.injEq] at h
      rw [← h.2]
      have : id ≠ j := fun e => by rw [e, hj] at hid; cases hid
      simp [upd, this, list cs h2 id hid]
     ·cases h
    ·cases h
   ·cases h
  | agg cs =>
   simp only [frz] at h
   obtain ⟨⟨xs, H2⟩, h2, he⟩ := Option.map_eq_some_iff.1 h
   simp only [Prod.mk.injEq] at he
   rw [← he.2]; exact list cs h2 id hid
  | fn f cs =>
   simp only [frz] at h
   obtain ⟨⟨xs, H2⟩, h2, he⟩ := Option.map_eq_some_iff.1 h
   simp only [Prod.mk.injEq] at he
   rw [← he.2]; exact list cs h2 id hid
  | _ => simp [frz] at h
theorem frzL_dead (n : Nat) : ∀ (cs : List AV) {H : Hs} {xs : List Dat} {H1 : Hs}, frzL (frz n) H cs = some (xs, H1) → ∀ id, H id = .dead → H1 id = .dead
 | [], H, xs, H1, h, id, hid => by simp only [frzL, Option.some.injEq, Prod.mk.injEq] at h; rw [← h.2]; exact hid
 | c :: cs, H, xs, H1, h, id, hid => by
  simp only [frzL] at h
  split at h
  ·cases h
  ·rename_i x0 H2 h0
   split at h
   ·rename_i xs0 H3 h1
    cases h
    exact frzL_dead n cs h1 id (frz_dead n h0 id hid)
   ·cases h
theorem partsD_dead {sz : Nat} : ∀ (as : List (Nat × AV)) {H : Hs} {xs ys : List Dat} {H1 : Hs}, partsD sz H xs as = some (ys, H1) → ∀ id, H id = .dead → H1 id = .dead
 | [], H, xs, ys, H1, h, id, hid => by simp only [partsD, Option.some.injEq, Prod.mk.injEq] at h; rw [← h.2]; exact hid
 | (i, v) :: as, H, xs, ys, H1, h, id, hid => by
  simp only [partsD] at h
  split at h
  ·rename_i x H2 h2
   split at h
   ·exact partsD_dead as h id (frz_dead 4 h2 id hid)
   ·cases h
  ·cases h
theorem act_dead {e : Operand → AV} {o : Op} {x : AV} {H1 : Hs} {n1 : Nat} (h : act C H nx e o = some (x, H1, n1)) : ∀ id, id < nx → H id = .dead → H1 id = .dead := by
 intro id hlt hid
 have hne : id ≠ nx := by omega
 by_cases hq : quietOp o = true
 ·rw [(act_quiet hq h H).1]; exact hid
 ·cases o with
  | makeSlice t l c => simp only [act] at h; obtain ⟨y, hy, h⟩ := Option.map_eq_some_iff.1 h; cases h; simp [upd, hne, hid]
  | makeMap t r =>
   simp only [act] at h
   split at h <;> cases h
   simp [upd, hne, hid]
  | alloc t => simp only [act] at h; obtain ⟨y, hy, h⟩ := Option.bind_eq_some_iff.1 h; cases h; simp [upd, hne, hid]
  | box t a =>
   simp only [act] at h
   obtain ⟨y, hy, h⟩ := Option.bind_eq_some_iff.1 h
   split at h <;> cases h
   simp [upd, hne, hid]
  | buildSlice t len ps =>
   simp only [act] at h
   split at h <;> try cases h
   split at h <;> try cases h
   split at h <;> try cases h
   split at h
   ·rename_i hp
    cases h
    simp [upd, hne, partsD_dead _ hp id hid]
   ·cases h
  | load t p => rw [(map_pure h H).1]; exact hid
  | slice t p lo hi mx => rw [(map_pure h H).1]; exact hid
  | indexAddr t p i => rw [(map_pure h H).1]; exact hid
  | lookup t m x ok => rw [(map_pure h H).1]; exact hid
  | mapUpdate t m x v =>
   simp only [act] at h
   obtain ⟨H2, h2, he⟩ := Option.map_eq_some_iff.1 h
   simp only [Prod.mk.injEq] at he
   obtain ⟨_, rfl, _⟩ := he
   unfold mapUpdA at h2
   split at h2
   ·rename_i j key k el d H3 hm hd hmt hfz
    have h3 := frz_dead 4 hfz id hid
    split at h2
    ·rename_i es hj
     split at h2
     ·obtain ⟨es1, hput, rfl⟩ := Option.map_eq_some_iff.1 h2
      have : id ≠ j := fun e => by rw [e, hj] at h3; cases h3
      simp [upd, this, h3]
     ·cases h2
    ·cases h2
   ·cases h2
  | store t p v =>
   simp only [act] at h
   obtain ⟨H2, h2, he⟩ := Option.map_eq_some_iff.1 h
   simp only [Prod.mk.injEq] at he
   obtain ⟨_, rfl, _⟩ := he
   unfold storeA at h2
   split at h2
   ·split at h2
    ·rename_i j off hpe
     split at h2
     ·rename_i cs hj
      have : id ≠ j := fun e => by rw [e, hj] at hid; cases hid
      split at h2 <;> cases h2
      simp [upd, this, hid]
     ·cases h2
    ·rename_i j i' j' hpe
     split at h2
     ·rename_i x0 z xs hx hj
      have : id ≠ j := fun e => by rw [e, hj] at hid; cases hid
      split at h2
      ·split at h2
       ·split at h2
        ·cases h2; simp [upd, this, hid]
        ·split at h2 <;> cases h2
         simp [upd, this, hid]
       ·cases h2
      ·cases h2
     ·cases h2
    ·cases h2
   ·cases h2
  | call c =>
   obtain ⟨callee, args, ats⟩ := c
   simp only [act] at h
   split at h
   ·simp [quietOp] at hq
   ·split at h
    ·unfold appendA at h
     split at h <;> try cases h
     split at h <;> try cases h
     split at h <;> try cases h
     split at h
     ·rename_i xs H2 new hb hn
      split at h <;> cases h
      simp only [upd, hne, if_false]
      unfold baseA at hb
      split at hb
      ·cases hb; exact hid
      ·rename_i j lo hi
       split at hb
       ·rename_i z xs2 hj
        split at hb <;> cases hb
        simp only [upd]
        split
        ·rfl
        ·exact hid
       ·cases hb
      ·cases hb
     ·cases h
    ·cases h
   ·simp [quietOp] at hq
   ·simp [quietOp] at hq
   ·cases h
  | _ => first | (simp [quietOp] at hq; done) | simp [act] at h
theorem AVR.restr {B' : Nat → Option Pl} {v : AV} {u : Value} (h : AVR S w B v u) : (∀ i, Ment i v → B' i = B i) → AVR S w B' v u := by
 induction h with
 | d x v h => exact fun _ => .d x v h
 | nil => exact fun _ => .nil
 | slz id => exact fun _ => .slz id
 | undef => exact fun _ => .undef
 | sl id lo hi p hp h1 h2 h3 hm => exact fun hb => .sl id lo hi p ((hb id (.sl lo hi)).trans hp) h1 h2 h3 hm
 | sle id lo off c p hp h hm => exact fun hb => .sle id lo off c p ((hb id (.sl lo lo)).trans hp) h hm
 | pt id off p hp => exact fun hb => .pt id off p ((hb id (.pt off)).trans hp)
 | pe id i j p hp => exact fun hb => .pe id i j p ((hb id (.pe i j)).trans hp)
 | agg cs vs hl ho _ ih => exact fun hb => .agg cs vs hl ho fun j c u hj hu => ih j c u hj hu fun i hm => hb i (.agg cs c (List.mem_of_getElem? hj) hm)
 | tup cs vs hl _ ih => exact fun hb => .tup cs vs hl fun j c u hj hu => ih j c u hj hu fun i hm => hb i (.tup cs c (List.mem_of_getElem? hj) hm)
 | fn f cs vs hl _ ih => exact fun hb => .fn f cs vs hl fun j c u hj hu => ih j c u hj hu fun i hm => hb i (.fn f cs c (List.mem_of_getElem? hj) hm)
 | mp id p hp => exact fun hb => .mp id p ((hb id .mp).trans hp)
 | bad v => exact fun _ => .bad v
theorem HR.restr {B' : Nat → Option Pl} {id : Nat} {h : Home} (hr : HR S w B id h) (hid : B' id = B id) (hb : ∀ cs c i, h = .box cs → c ∈ cs → Ment i c → B' i = B i) : HR S w B' id h := by
 cases hr with
 | own xs p arr e hp hbl hr => exact .own xs p arr e (hid.trans hp) hbl hr
 | ownz z hp => exact .ownz z (hid.trans hp)
 | immz z hp => exact .immz z (hid.trans hp)
 | box cs p arr e hp hbl hsz hv => exact .box cs p arr e (hid.trans hp) hbl hsz (fun j c hj => let ⟨u, h1, h2, h3⟩ := hv j c hj; ⟨u, h1, h2, h3.restr fun i hm => hb cs c i rfl (List.mem_of_getElem? hj) hm⟩)
 | imm xs p arr e fr hp hs hbl hr => exact .imm xs p arr e fr (hid.trans hp) hs hbl hr
 | immb cs p arr e fr hp hs hbl hsz hv => exact .immb cs p arr e fr (hid.trans hp) hs hbl hsz hv
 | map es p arr clock hp hbl hsz hv => exact .map es p arr clock (hid.trans hp) hbl hsz hv
 | dead => exact .dead
def below (nx : Nat) (B : Nat → Option Pl) : Nat → Option Pl := fun i => if i < nx then B i else none
def handed (R : Nat → Prop) (nx : Nat) (B : Nat → Option Pl) (H : Hs) : Lz :=
 ⟨fun b => ∃ id p, R id ∧ (H id).live = true ∧ B id = some p ∧ p.blk = b, fun i => if i < nx then some (B i) else none⟩
def joined (nx n1 : Nat) (B B1 : Nat → Option Pl) : Nat → Option Pl := fun i => if nx ≤ i ∧ i < n1 then B1 i else B i
theorem restr_live {R : Nat → Prop} {id : Nat} (h : (restr R H id).live = true) : R id ∧ restr R H id = H id := by
 unfold restr at h ⊢
 split at h
 ·rename_i hr; simp [hr]
 ·cases h
theorem Mem.hand (hM : Mem C S0 L0 w0 S B H F w) {R : Nat → Prop} (hR : ∀ i, R i → i < nx) (hc : ClosedX R H) : Mem C S (handed R nx B H) w S (below nx B) (restr R H) (fun id => nx ≤ id) w := by
 have hbl : ∀ i, i < nx → below nx B i = B i := fun i hi => by simp [below, hi]
 refine ⟨fun id => ?_, fun id hid => ?_, fun id hid => ?_, fun i j p q hi hj hp hq hne => ?_, fun i p hi hp => ?_, hM.lt, hM.glob, rfl, rfl, rfl, Nat.le_refl _, fun _ _ _ => rfl, fun _ h => h, fun i p hi hp => ?_, fun _ h => .inl h, fun id q hq => ?_, fun id hid => ?_⟩
 ·unfold Go.Jv.restr
  split
  ·rename_i hr
   exact (hM.homes id).restr (hbl id (hR id hr)) fun cs c i hcs hcm hm => hbl i (hR i (hc id cs c i hr hcs hcm hm))
  ·exact .dead
 ·unfold Go.Jv.restr
  split
  ·rename_i hr; have := hR id hr; omega
  ·rfl
 ·simp [below, Nat.not_lt.2 hid]
 ·obtain ⟨h1, h2⟩ := restr_live hi
  obtain ⟨h3, h4⟩ := restr_live hj
  rw [hbl i (hR i h1)] at hp
  rw [hbl j (hR j h3)] at hq
  exact hM.inj i j p q (h2 ▸ hi) (h4 ▸ hj) hp hq hne
 ·obtain ⟨h1, h2⟩ := restr_live hi
  rw [hbl i (hR i h1)] at hp
  exact hM.off i p (h2 ▸ hi) hp
 ·obtain ⟨h1, h2⟩ := restr_live hi
  rw [hbl i (hR i h1)] at hp
  exact .inl ⟨i, p, h1, h2 ▸ hi, hp, rfl⟩
 ·simp only [handed] at hq
  split at hq
  ·rename_i hlt; cases hq; exact hbl id hlt
  ·cases hq
 ·simp [handed, Nat.not_lt.2 hid]
theorem merge_in {R : Nat → Prop} {n1 : Nat} {H1 : Hs} {i : Nat} (h : R i ∨ (nx ≤ i ∧ i < n1)) : merge R nx n1 H H1 i = H1 i := by simp [merge, h]
theorem merge_out {R : Nat → Prop} {n1 : Nat} {H1 : Hs} {i : Nat} (h : ¬ (R i ∨ (nx ≤ i ∧ i < n1))) : merge R nx n1 H H1 i = H i := by simp only [merge]; rw [if_neg h]
theorem Mem.back (hM : Mem C S0 L0 w0 S B H F w) {R : Nat → Prop} {n1 : Nat} {S1 : Nat → Prop} {B1 : Nat → Option Pl} {H1 : Hs} {w1 : World} (hR : ∀ i, R i → i < nx) (hF : ∀ id, nx ≤ id → id < n1 → F id)
  (hd : ∀ id, id < nx → restr R H id = .dead → H1 id = .dead)
  (hM1 : Mem C S (handed R nx B H) w S1 B1 H1 (fun id => n1 ≤ id) w1) (hS : ∀ b, S b → S1 b) (hs : Same S w w1) :
  Mem C S0 L0 w0 S1 (joined nx n1 B B1) (merge R nx n1 H H1) (took F nx n1) w1 ∧ Ext B1 (joined nx n1 B B1) ∧ Ext B (joined nx n1 B B1) := by
 have hB1 : ∀ i, i < nx → B1 i = B i := fun i hi => hM1.b0 i (B i) (by simp [handed, hi])
 have hE1 : Ext B1 (joined nx n1 B B1) := by
  intro i p hp
  simp only [joined]
  split
  ·exact hp
  ·rename_i hn
   by_cases h1 : i < nx
   ·rw [← hB1 i h1]; exact hp
   ·rw [hM1.freshB i (by omega)] at hp; cases hp
 have hE : Ext B (joined nx n1 B B1) := by
  intro i p hp
  simp only [joined]
  split
  ·rename_i hn
   rw [hM.freshB i (hF i hn.1 hn.2)] at hp; cases hp
  ·exact hp
 have hjin : ∀ i, R i ∨ (nx ≤ i ∧ i < n1) → joined nx n1 B B1 i = B1 i := by
  intro i hi
  simp only [joined]
  split
  ·rfl
  ·rename_i hn
   rcases hi with hi | hi
   ·exact (hB1 i (hR i hi)).symm
   ·exact absurd hi hn
 have hjout : ∀ i, ¬ (R i ∨ (nx ≤ i ∧ i < n1)) → joined nx n1 B B1 i = B i := fun i hi => by
  simp only [joined]
  rw [if_neg fun h => hi (.inr h)]
 have hon : ∀ i p, ¬ R i → (H i).live = true → B i = some p → ¬ (handed R nx B H).on p.blk := by
  rintro i p hi hl hp ⟨j, q, hj, hlj, hq, he⟩
  exact hM.inj i j p q hl hlj hp hq (fun e => hi (e ▸ hj)) he.symm
 have cse : ∀ i, (merge R nx n1 H H1 i).live = true → ∀ p, joined nx n1 B B1 i = some p → ((R i ∨ (nx ≤ i ∧ i < n1)) ∧ (H1 i).live = true ∧ B1 i = some p) ∨ (¬ (R i ∨ (nx ≤ i ∧ i < n1)) ∧ (H i).live = true ∧ B i = some p) := by
  intro i hl p hp
  by_cases hi : R i ∨ (nx ≤ i ∧ i < n1)
  ·rw [merge_in hi] at hl; rw [hjin i hi] at hp; exact .inl ⟨hi, hl, hp⟩
  ·rw [merge_out hi] at hl; rw [hjout i hi] at hp; exact .inr ⟨hi, hl, hp⟩
 refine ⟨⟨fun id => ?_, fun id hid => ?_, fun id hid => ?_, fun i j p q hi hj hp hq hne => ?_, fun i p hi hp hS1 => ?_, hM1.lt, hM1.glob, hM1.os.trans hM.os, hM1.tape.trans hM.tape, hM1.output.trans hM.output, Nat.le_trans hM.size hM1.size, fun b hb hl => ?_, fun b hb => hS b (hM.sub b hb), fun i p hi hp => ?_, fun b hb => ?_, fun id q hq => ?_, fun id hid => hM.b0F id hid.1⟩, hE1, hE⟩
 ·by_cases hi : R id ∨ (nx ≤ id ∧ id < n1)
  ·rw [merge_in hi]
   exact (hM1.homes id).mono (fun _ h => h) (fun _ _ => rfl) hE1 (fun _ hn => by rw [hjin id hi]; exact hn) (fun _ _ _ => rfl)
  ·rw [merge_out hi]
   refine (hM.homes id).mono hS hs hE (fun _ hn => by rw [hjout id hi]; exact hn) fun hl p hp => hM1.keep _ ((hM.homes id).lt hl p hp) (hon id p (fun h => hi (.inl h)) hl hp)
 ·by_cases hi : R id ∨ (nx ≤ id ∧ id < n1)
  ·rw [merge_in hi]
   have h1 : id < nx := by
    rcases hi with hi | hi
    ·exact hR id hi
    ·have := hid.2; omega
   refine hd id h1 ?_
   unfold Go.Jv.restr
   split
   ·exact hM.fresh id hid.1
   ·rfl
  ·rw [merge_out hi]; exact hM.fresh id hid.1
 ·have : ¬ (nx ≤ id ∧ id < n1) := by have := hid.2; omega
  simp only [joined, if_neg this]
  exact hM.freshB id hid.1
 ·have mix : ∀ i j p q, R i ∨ (nx ≤ i ∧ i < n1) → (H1 i).live = true → B1 i = some p → ¬ (R j ∨ (nx ≤ j ∧ j < n1)) → (H j).live = true → B j = some q → p.blk ≠ q.blk := by
   intro i j p q hi hli hpi hj hlj hqj e
   rcases hM1.liveIn i p hli hpi with h1 | h1
   ·exact hon j q (fun h => hj (.inl h)) hlj hqj (e ▸ h1)
   ·have := (hM.homes j).lt hlj q hqj; omega
  rcases cse i hi p hp with ⟨a1, a2, a3⟩ | ⟨a1, a2, a3⟩ <;> rcases cse j hj q hq with ⟨b1, b2, b3⟩ | ⟨b1, b2, b3⟩
  ·exact hM1.inj i j p q a2 b2 a3 b3 hne
  ·exact mix i j p q a1 a2 a3 b1 b2 b3
  ·exact (mix j i q p b1 b2 b3 a1 a2 a3).symm
  ·exact hM.inj i j p q a2 b2 a3 b3 hne
 ·rcases cse i hi p hp with ⟨a1, a2, a3⟩ | ⟨a1, a2, a3⟩
  ·exact hM1.off i p a2 a3 hS1
  ·rcases hM1.sIn _ hS1 with h1 | h1 | h1
   ·exact hM.off i p a2 a3 h1
   ·exact hon i p (fun h => a1 (.inl h)) a2 a3 h1
   ·have := (hM.homes i).lt a2 p a3; omega
 ·rw [hM1.keep b (Nat.lt_of_lt_of_le hb hM.size) ?_]
  ·exact hM.keep b hb hl
  ·rintro ⟨j, q, hj, hlj, hq, rfl⟩
   rcases hM.liveIn j q hlj hq with h1 | h1
   ·exact hl h1
   ·omega
 ·have up : (handed R nx B H).on p.blk ∨ w.heap.size ≤ p.blk → L0 p.blk ∨ w0.heap.size ≤ p.blk := by
   rintro (⟨j, q, hj, hlj, hq, he⟩ | h1)
   ·rw [← he]; exact hM.liveIn j q hlj hq
   ·exact .inr (Nat.le_trans hM.size h1)
  rcases cse i hi p hp with ⟨a1, a2, a3⟩ | ⟨a1, a2, a3⟩
  ·exact up (hM1.liveIn i p a2 a3)
  ·exact hM.liveIn i p a2 a3
 ·rcases hM1.sIn b hb with h1 | ⟨j, q, hj, hlj, hq, rfl⟩ | h1
  ·exact hM.sIn b h1
  ·exact .inr (hM.liveIn j q hlj hq)
  ·exact .inr (.inr (Nat.le_trans hM.size h1))
 ·have h1 := hM.b0 id q hq
  have h2 : ¬ (nx ≤ id ∧ id < n1) := fun h => by rw [hM.b0F id (hF id h.1 h.2)] at hq; cases hq
  simp only [joined, if_neg h2]; exact h1
theorem Mem.called (hM : Mem C S0 L0 w0 S B H F w) {S1 : Nat → Prop} {w1 : World} (sub : ∀ b, S b → S1 b) (sIn : ∀ b, S1 b → S b ∨ w.heap.size ≤ b) (lt : ∀ b, S1 b → b < w1.heap.size)
  (keep : ∀ b, b < w.heap.size → w1.heap[b]? = w.heap[b]?) (size : w.heap.size ≤ w1.heap.size) (os : w1.os = w.os) (tape : w1.tape = w.tape) (output : w1.output = w.output) : Mem C S0 L0 w0 S1 B H F w1 := by
 have hs : Same S w w1 := fun b hb => keep b (hM.lt b hb)
 refine ⟨fun id => (hM.homes id).mono sub hs (Ext.refl _) (fun _ hn => hn) (fun hl p hp => keep _ ((hM.homes id).lt hl p hp)), hM.fresh, hM.freshB, hM.inj, ?_, lt,
  fun g cs hg => (hM.glob g cs hg).mono sub hs, os.trans hM.os, tape.trans hM.tape, output.trans hM.output, Nat.le_trans hM.size size, ?_, fun b hb => sub b (hM.sub b hb), hM.liveIn, ?_, hM.b0, hM.b0F⟩
 ·intro id p hl hp h1
  rcases sIn _ h1 with h2 | h2
  ·exact hM.off id p hl hp h2
  ·have := (hM.homes id).lt hl p hp; omega
 ·intro b hb hl
  rw [keep b (by have := hM.size; omega)]
  exact hM.keep b hb hl
 ·intro b hb
  rcases sIn b hb with h2 | h2
  ·exact hM.sIn b h2
  ·exact .inr (.inr (by have := hM.size; omega))
theorem fnOf_sound {v : AV} {u : Value} {f : FuncId} {caps : List AV} (hv : AVR S w B v u) (h : fnOf v = some (f, caps)) :
  ∃ us : Array Value, u = .func (.func f) #[] us ∧ us.size = caps.length ∧ ∀ (i : Nat) x u, caps[i]? = some x → us[i]? = some u → AVR S w B x u := by
 cases v with
 | d x =>
  cases x with
  | fn g cs =>
   simp only [fnOf, Option.some.injEq, Prod.mk.injEq] at h
   obtain ⟨rfl, rfl⟩ := h
   have hv' := hv.dV
   cases hv' with
   | fn _ _ vs hl hv2 =>
    refine ⟨vs, rfl, by simp [hl], fun i x u hx hu => ?_⟩
    rw [List.getElem?_map] at hx
    obtain ⟨y, hy, rfl⟩ := Option.map_eq_some_iff.1 hx
    exact .d _ _ (hv2 i y u hy hu)
  | _ => simp [fnOf] at h
 | fn g cs =>
  simp only [fnOf, Option.some.injEq, Prod.mk.injEq] at h
  obtain ⟨rfl, rfl⟩ := h
  cases hv with
  | fn _ _ vs hl hv => exact ⟨vs, rfl, hl.symm, hv⟩
 | _ => simp [fnOf] at h
theorem frzL_sound (n : Nat) : ∀ {vs : List AV} {us : List Value} {H : Hs} {S : Nat → Prop} {xs : List Dat} {H1 : Hs}, Mem C S0 L0 w0 S B H F w → us.length = vs.length →
  (∀ (i : Nat) x u, vs[i]? = some x → us[i]? = some u → AVR S w B x u) → frzL (frz n) H vs = some (xs, H1) →
  ∃ S1, Mem C S0 L0 w0 S1 B H1 F w ∧ (∀ b, S b → S1 b) ∧ us.length = xs.length ∧ ∀ (i : Nat) x u, xs[i]? = some x → us[i]? = some u → VR S1 w x u
 | [], us, H, S, xs, H1, hM, hl, hv, h => by
  simp only [frzL, Option.some.injEq, Prod.mk.injEq] at h
  obtain ⟨rfl, rfl⟩ := h
  exact ⟨S, hM, fun _ h => h, by simpa using hl, fun i x u hx => by simp at hx⟩
 | v :: vs, us, H, S, xs, H1, hM, hl, hv, h => by
  match us, hl with
  | u :: us, hl =>
   simp only [frzL] at h
   split at h
   ·cases h
   ·rename_i x H2 h2
    split at h
    ·rename_i xs' H3 h3
     cases h
     obtain ⟨S1, hM1, hS1, hx, _⟩ := frz_sound n hM (hv 0 v u rfl rfl) h2
     obtain ⟨S2, hM2, hS2, hl2, hx2⟩ := frzL_sound n (us := us) hM1 (by simpa using hl) (fun i x u hx hu => (hv (i + 1) x u hx hu).mono hS1 (fun _ _ => rfl) (Ext.refl _)) h3
     refine ⟨S2, hM2, fun b hb => hS2 b (hS1 b hb), by simp [hl2], fun i x' u' hx' hu' => ?_⟩
     match i with
     | 0 => simp at hx' hu'; subst hx' hu'; exact hx.mono hS2 (fun _ _ => rfl)
     | i + 1 => exact hx2 i x' u' (by simpa using hx') (by simpa using hu')
    ·cases h
theorem frzL_plain {n : Nat} : ∀ {vs : List AV} {H : Hs} {xs : List Dat} {H1 : Hs}, (∀ v ∈ vs, (datA v).isSome = true) → frzL (frz n) H vs = some (xs, H1) → ∀ H', H1 = H ∧ frzL (frz n) H' vs = some (xs, H')
 | [], H, xs, H1, _, h, H' => by
  simp only [frzL, Option.some.injEq, Prod.mk.injEq] at h ⊢
  exact ⟨h.2.symm, by simp [h.1]⟩
 | v :: vs, H, xs, H1, hp, h, H' => by
  simp only [frzL] at h ⊢
  split at h
  ·cases h
  ·rename_i x H2 h2
   obtain ⟨h3, h4⟩ := frz_plain (hp v (by simp)) h2 H'
   subst h3
   rw [h4]
   simp only
   split at h
   ·rename_i xs' H3 h5
    simp only [Option.some.injEq, Prod.mk.injEq] at h
    obtain ⟨rfl, rfl⟩ := h
    obtain ⟨h6, h7⟩ := frzL_plain (fun v hv => hp v (by simp [hv])) h5 H'
    rw [h7]
    exact ⟨h6, rfl⟩
   ·cases h
theorem plainD_any {T : Nat → Prop} {x : Dat} {v : Value} (hp : plainD x = true) (h : VR T w x v) (S' : Nat → Prop) (w' : World) : VR S' w' x v := by
 cases h with
 | int k n => exact .int k n
 | bool b => exact .bool b
 | str s => exact .str s
 | agg cs vs hl ho hv =>
  refine .agg cs vs hl ho fun j c u hj hu => ?_
  simp only [plainD, List.all_eq_true] at hp
  have hc := hp c (List.mem_of_getElem? hj)
  have := hv j c u hj hu
  cases this with
  | int k n => exact .int k n
  | bool b => exact .bool b
  | str s => exact .str s
  | _ => simp at hc
 | _ => simp [plainD] at hp
theorem plainAll_any {T : Nat → Prop} {B1 : Nat → Option Pl} {ds : List Dat} {v : Value} (hp : ds.all plainD = true) (h : AVR T w B1 (tupA (ds.map .d)) v) (S' : Nat → Prop) (w' : World) (B' : Nat → Option Pl) :
  AVR S' w' B' (tupA (ds.map .d)) v := by
 have hall := List.all_eq_true.1 hp
 match ds, hall, h with
 | [d], hall, h => exact .d _ _ (plainD_any (hall d (by simp)) h.dV S' w')
 | [], _, h =>
  simp only [List.map_nil, tupA] at h ⊢
  cases h with
  | tup _ vs hl hv => exact .tup _ vs hl fun j c u hj => by simp at hj
 | d :: d' :: ds, hall, h =>
  simp only [List.map_cons, tupA] at h ⊢
  cases h with
  | tup _ vs hl hv =>
   refine .tup _ vs hl fun j c u hj hu => ?_
   have hj' : ((d :: d' :: ds).map AV.d)[j]? = some c := by simpa using hj
   rw [List.getElem?_map] at hj'
   obtain ⟨y, hy, rfl⟩ := Option.map_eq_some_iff.1 hj'
   exact .d _ _ (plainD_any (hall y (List.mem_of_getElem? hy)) (hv j _ u hj hu).dV S' w')
theorem args_of {e : Operand → AV} {ρ : Operand → Value} {args : Array Operand} {caps : List AV} {us : Array Value} (ha : ∀ x ∈ args, AVR S w B (e x) (ρ x)) (hs : us.size = caps.length)
  (hc : ∀ (i : Nat) x u, caps[i]? = some x → us[i]? = some u → AVR S w B x u) :
  (args.map ρ ++ us).size = (args.toList.map e ++ caps).length ∧ ∀ (i : Nat) x u, (args.toList.map e ++ caps)[i]? = some x → (args.map ρ ++ us)[i]? = some u → AVR S w B x u := by
 refine ⟨by simp [hs], fun i x u hx hu => ?_⟩
 by_cases hi : i < args.size
 ·rw [List.getElem?_append_left (by simpa using hi), List.getElem?_map] at hx
  rw [Array.getElem?_append_left (by simpa using hi), Array.getElem?_map] at hu
  obtain ⟨q, hq, rfl⟩ := Option.map_eq_some_iff.1 hx
  have hq' : args[i]? = some q := by simpa using hq
  rw [hq'] at hu
  cases hu
  exact ha q (Array.mem_of_getElem? hq')
 ·rw [List.getElem?_append_right (by simpa using hi)] at hx
  rw [Array.getElem?_append_right (by simpa using hi)] at hu
  simp only [List.length_map, Array.length_toList] at hx
  simp only [Array.size_map] at hu
  exact hc _ x u hx hu
theorem run_call {f : FuncId} (hE : Enters P f) {ρ : Operand → Value} {fv : Operand} {us : Array Value} (hf : ρ fv = .func (.func f) #[] us) {o : Oper} {args : Array Operand} {ats : Array TypeId}
  (ho : o.op = .call ⟨.value fv, args, ats⟩) : (execOp ρ o).run P w = .ok (.enter f (args.map ρ ++ us)) w := by
 obtain ⟨G, h1, h2, h3⟩ := hE
 have h4 : ¬ G.name = "runtime.NumGoroutine" := by simpa using h3
 have h5 : ¬ G.body = none := by intro e; rw [e] at h2; cases h2
 unfold execOp
 simp [ho, resolve, Deferred.ofValue, hf, invoke, callFunc, h1, h4, h5]
theorem run_native {f : FuncId} {ρ : Operand → Value} {fv : Operand} {us : Array Value} (hf : ρ fv = .func (.func f) #[] us) {o : Oper} {args : Array Operand} {ats : Array TypeId}
  (ho : o.op = .call ⟨.value fv, args, ats⟩) {v : Value} (hr : (callFunc f (args.map ρ ++ us)).run P w = .ok (.value v) w) : (execOp ρ o).run P w = .ok (.value v) w := by
 unfold execOp
 simp [ho, resolve, Deferred.ofValue, hf, invoke, hr]
theorem opF_case (V : Valid P C) {callD' : FuncId → List Dat → Option (List Dat)} {callR' : FuncId → List AV → Hs → Nat → Option (List AV × Hs × Nat)}
  (hD : ∀ f xs rs, callD' f xs = some rs → DSound P C f xs rs) (hR : ∀ f vs H nx r, callR' f vs H nx = some r → RSound P C f vs H nx r) {e : Operand → AV} {o : Op} {r : AV × Hs × Nat}
  (h : (match o with
   | .call { callee := .value fv, args, .. } =>
    match fnOf (e fv) with
    | none => none
    | some (f, caps) =>
     match C.sig f with
     | .raw => do
      guardP (∀ i, Leads H (args.toList.map e ++ caps) i → i < nx)
      let (vs, H1, n1) ← callR' f (args.toList.map e ++ caps) (restr (Leads H (args.toList.map e ++ caps)) H) nx
      some (tupA vs, merge (Leads H (args.toList.map e ++ caps)) nx n1 H H1, n1)
     | .dat =>
      match frzAll H (args.toList.map e ++ caps) with
      | none => none
      | some (xs, H1) => do
       let ds ← callD' f xs
       some (tupA (ds.map .d), H1, nx)
     | .scal =>
      match seeAll (see 4 H) (args.toList.map e ++ caps) with
      | none => none
      | some xs => do
       let ds ← callD' f xs
       if ds.all plainD then some (tupA (ds.map .d), H, nx) else none
   | o => act C H nx e o) = some r) : OpSound P C e o H nx r (footA C H nx r.2.2 e o) := by
 split at h
 ·rename_i fv args ats
  cases hfn : fnOf (e fv) with
  | none => simp [hfn] at h
  | some fc =>
   obtain ⟨f, caps⟩ := fc
   simp only [hfn] at h
   have fnR : ∀ {S : Nat → Prop} {B : Nat → Option Pl} {w : World} {e' : Operand → AV} {a : Act}, (∀ x ∈ (Op.call ⟨.value fv, args, ats⟩).operands, e' x = e x) → (∀ x ∈ (Op.call ⟨.value fv, args, ats⟩).operands, AVR S w B (e' x) (a.eval x)) →
     ∃ us : Array Value, a.eval fv = .func (.func f) #[] us ∧ (args.map a.eval ++ us).size = (args.toList.map e ++ caps).length ∧ ∀ (i : Nat) x u, (args.toList.map e ++ caps)[i]? = some x → (args.map a.eval ++ us)[i]? = some u → AVR S w B x u := by
    intro S B w e' a he hρ
    have h1 := hρ fv (by simp [Op.operands, Call.operands])
    rw [he fv (by simp [Op.operands, Call.operands])] at h1
    obtain ⟨us, h2, h3, h4⟩ := fnOf_sound h1 hfn
    obtain ⟨h5, h6⟩ := args_of (e := e) (ρ := a.eval) (args := args) (fun x hx => by
     have := hρ x (by simp [Op.operands, Call.operands, hx])
     rwa [he x (by simp [Op.operands, Call.operands, hx])] at this) h3 h4
    exact ⟨us, h2, h5, h6⟩
   cases hsig : C.sig f with
   | raw =>
    simp only [hsig] at h
    obtain ⟨_, hg, h⟩ := Option.bind_eq_some_iff.1 h
    have hlt := guardP_s hg
    obtain ⟨⟨vs, H1, n1⟩, h1, h2⟩ := Option.bind_eq_some_iff.1 h
    simp only [Option.some.injEq] at h2
    subst h2
    obtain ⟨hE, hn, hdd, hS⟩ := hR _ _ _ _ _ h1
    simp only at hn hdd
    have hft : footA C H nx n1 e (.call ⟨.value fv, args, ats⟩) = ⟨Leads H (args.toList.map e ++ caps), fun i => Leads H (args.toList.map e ++ caps) i ∨ (nx ≤ i ∧ i < n1)⟩ := by simp only [footA, hfn, hsig]
    refine ⟨hn, fun id h3 h4 => ?_, ?_, fun e' H' he hH => ?_⟩
    ·show merge (Leads H (args.toList.map e ++ caps)) nx n1 H H1 id = .dead
     by_cases hi : Leads H (args.toList.map e ++ caps) id ∨ (nx ≤ id ∧ id < n1)
     ·rw [merge_in hi]
      refine hdd id h3 ?_
      unfold restr; split
      ·exact h4
      ·rfl
     ·rw [merge_out hi]; exact h4
    ·refine fun h3 => Classical.byContradiction fun hne => ?_
     refine h3 nx ?_
     rw [hft]
     exact .inr ⟨Nat.le_refl _, by simp only at hne; omega⟩
    simp only [hft] at hH ⊢
    have hrr : Leads H' (args.toList.map e ++ caps) = Leads H (args.toList.map e ++ caps) := Leads.congr fun i hi => hH i (.inl hi)
    have hrs : restr (Leads H (args.toList.map e ++ caps)) H' = restr (Leads H (args.toList.map e ++ caps)) H := by
     funext i
     unfold restr; split
     ·rename_i hi; exact hH i (.inl hi)
     ·rfl
    refine ⟨merge (Leads H (args.toList.map e ++ caps)) nx n1 H' H1, ⟨fun id hm => ?_, fun id hm => ?_⟩, ?_⟩
    ·rw [merge_in hm, merge_in hm]
    ·rw [merge_out hm, merge_out hm]; exact ⟨rfl, rfl⟩
    intro S0 L0 w0 S B F w a oper hop hM hρ hF _ K Q hK
    obtain ⟨us, h3, h4, h5⟩ := fnR he hρ
    unfold Oper.wp
    rw [run_call hE h3 hop, Oper.upon_enter]
    have hcl : ClosedX (Leads H (args.toList.map e ++ caps)) H' := by rw [← hrr]; exact Leads.closed _ _
    have hMh := hM.hand (nx := nx) hlt hcl
    rw [hrs] at hMh
    refine Calls.mono' (hS _ _ _ S (below nx B) w _ hMh h4 fun i x u hx hu => (h5 i x u hx hu).restr fun j hm => ?_) ?_
    ·have : j < nx := hlt j (.arg x (List.mem_of_getElem? hx) hm)
     simp [below, this]
    intro e1 w1 hr
    cases e1 with
    | returned v =>
     obtain ⟨S1, B1, h6, h7, h8, h9, _⟩ := hr
     obtain ⟨m1, m2, m3⟩ := hM.back (R := Leads H (args.toList.map e ++ caps)) hlt hF (by rw [hrs]; exact hdd) h7 h8 h9
     exact hK v w1 S1 _ (h6.mono (fun _ h => h) (fun _ _ => rfl) m2) m1 h8 h9 m3
    | _ => exact hr.elim
   | dat =>
    simp only [hsig] at h
    cases hfz : frzAll H (args.toList.map e ++ caps) with
    | none => simp [hfz] at h
    | some q =>
     obtain ⟨xs, H1⟩ := q
     simp only [hfz] at h
     obtain ⟨ds, h1, h2⟩ := Option.bind_eq_some_iff.1 h
     simp only [Option.some.injEq] at h2
     subst h2
     have hDS := hD _ _ _ h1
     refine ⟨Nat.le_refl _, fun id _ hid => frzL_dead 4 _ hfz id hid, fun _ => rfl, fun e' H' he hH => ?_⟩
     have key : ∃ H1', Local (footA C H nx nx e (.call ⟨.value fv, args, ats⟩)) H H' H1 H1' ∧ frzAll H' (args.toList.map e ++ caps) = some (xs, H1') := by
      by_cases hp : ((args.toList.map e ++ caps).all fun x => (datA x).isSome) = true
      ·have hft : footA C H nx nx e (.call ⟨.value fv, args, ats⟩) = noFt := by simp only [footA, hfn, hsig, hp, if_true]
       obtain ⟨h3, h4⟩ := frzL_plain (fun v hv => List.all_eq_true.1 hp v hv) hfz H'
       subst h3
       exact ⟨H', by rw [hft]; exact .quiet fun id hm => by simp [Ft.mods, noFt, Ft.of] at hm, h4⟩
      ·have hft : footA C H nx nx e (.call ⟨.value fv, args, ats⟩) = ⟨Leads H (args.toList.map e ++ caps), Leads H (args.toList.map e ++ caps)⟩ := by simp only [footA, hfn, hsig]; rw [if_neg hp]
       simp only [hft] at hH ⊢
       obtain ⟨H1', h3, i3⟩ := frzL_loc 4 _ (Leads.closed H _) (fun i hi => hH i (.inl hi)) (fun c hc i hm => .arg c hc hm) hfz
       exact ⟨H1', i3.local rfl, h3⟩
     obtain ⟨H1', hL, hfz'⟩ := key
     refine ⟨H1', hL, ?_⟩
     intro S0 L0 w0 S B F w a oper hop hM hρ hF _ K Q hK
     obtain ⟨us, h3, h4, h5⟩ := fnR he hρ
     obtain ⟨S1, hM1, hS1, hl, hx⟩ := frzL_sound 4 (us := (args.map a.eval ++ us).toList) hM (by rw [Array.length_toList]; exact h4) (fun i x u hx hu => h5 i x u hx (by rwa [Array.getElem?_toList] at hu)) hfz'
     rcases hDS with ⟨_, hE, hS⟩ | ⟨_, hN⟩
     ·unfold Oper.wp
      rw [run_call hE h3 hop, Oper.upon_enter]
      refine Calls.mono' (hS S1 w _ hM1.lt hM1.glob (by rw [← Array.length_toList]; exact hl) (fun i x u hx' hu => hx i x u hx' (by rwa [Array.getElem?_toList]))) ?_
      intro e1 w1 hr
      cases e1 with
      | returned v =>
       obtain ⟨S2, hg, hv⟩ := hr
       exact hK v w1 S2 B (hv.mono (fun _ h => h) (fun _ _ => rfl) (fun id p hp => by cases hp)) ((hM1.called hg.sub hg.sIn hg.lt hg.keep hg.size hg.os hg.tape hg.output).weak fun id hi => hi.1)
        (fun b hb => hg.sub b (hS1 b hb)) (fun b hb => hg.keep b (hM.lt b hb)) (Ext.refl _)
      | _ => exact hr.elim
     ·obtain ⟨_, v, hrun, hv⟩ := hN S1 w _ (by rw [← Array.length_toList]; exact hl) (fun i x u hx' hu => hx i x u hx' (by rwa [Array.getElem?_toList]))
      unfold Oper.wp
      rw [run_native h3 hop hrun, Oper.upon_value]
      exact hK v w S1 B (hv.mono (fun _ h => h) (fun _ _ => rfl) (fun id p hp => by cases hp)) (hM1.weak fun id hi => hi.1) hS1 (fun _ _ => rfl) (Ext.refl _)
   | scal =>
    simp only [hsig] at h
    cases hse : seeAll (see 4 H) (args.toList.map e ++ caps) with
    | none => simp [hse] at h
    | some xs =>
     simp only [hse] at h
     obtain ⟨ds, h1, h2⟩ := Option.bind_eq_some_iff.1 h
     split at h2
     ·rename_i hpl
      simp only [Option.some.injEq] at h2
      subst h2
      have hDS := hD _ _ _ h1
      have hft : footA C H nx nx e (.call ⟨.value fv, args, ats⟩) = ⟨Leads H (args.toList.map e ++ caps), noFt.md⟩ := by simp only [footA, hfn, hsig]
      refine ⟨Nat.le_refl _, fun id _ hid => hid, fun _ => rfl, fun e' H' he hH => ?_⟩
      simp only [hft] at hH ⊢
      have hse : seeAll (see 4 H') (args.toList.map e ++ caps) = some xs := by rw [← hse]; exact seeAll_loc (Leads.closed H _) (fun i hi => hH i (.inl hi)) 4 _ fun c hc i hm => .arg c hc hm
      refine ⟨H', .quiet fun id hm => (by simp [Ft.mods, noFt, Ft.of] at hm), ?_⟩
      intro S0 L0 w0 S B F w a oper hop hM hρ hF _ K Q hK
      obtain ⟨us, h3, h4, h5⟩ := fnR he hρ
      obtain ⟨hl, hsee⟩ := seeAll_get hse
      rcases hDS with ⟨_, hE, hS⟩ | ⟨_, hN⟩
      ·unfold Oper.wp
       rw [run_call hE h3 hop, Oper.upon_enter]
       refine Calls.mono' (hS (fun b => S b ∨ Lv B H' b) w _ ?_ (fun g cs hg => (hM.glob g cs hg).mono (fun _ h => .inl h) (fun _ _ => rfl)) (by rw [h4, hl]) ?_) ?_
       ·intro b hb
        rcases hb with hb | ⟨id, p, hlv, hp, rfl⟩
        ·exact hM.lt b hb
        ·exact (hM.homes id).lt hlv p hp
       ·intro i x u hx hu
        have hi : i < (args.toList.map e ++ caps).length := by rw [hl]; exact (List.getElem?_eq_some_iff.1 hx).1
        obtain ⟨x', hx', hs⟩ := hsee i _ (List.getElem?_eq_getElem hi)
        rw [hx] at hx'
        cases hx'
        exact see_sound hM 4 (h5 i _ u (List.getElem?_eq_getElem hi) hu) hs
       ·intro e1 w1 hr
        cases e1 with
        | returned v =>
         obtain ⟨S2, hg, hv⟩ := hr
         exact hK v w1 S B (plainAll_any hpl hv S w1 B) ((hM.called (fun _ h => h) (fun _ h => .inl h) (fun b hb => Nat.lt_of_lt_of_le (hM.lt b hb) hg.size) hg.keep hg.size hg.os hg.tape hg.output).weak fun id hi => hi.1)
          (fun _ h => h) (fun b hb => hg.keep b (hM.lt b hb)) (Ext.refl _)
        | _ => exact hr.elim
      ·obtain ⟨_, v, hrun, hv⟩ := hN (fun b => S b ∨ Lv B H' b) w _ (by rw [h4, hl]) (fun i x u hx hu => by
        have hi : i < (args.toList.map e ++ caps).length := by rw [hl]; exact (List.getElem?_eq_some_iff.1 hx).1
        obtain ⟨x', hx', hs⟩ := hsee i _ (List.getElem?_eq_getElem hi)
        rw [hx] at hx'
        cases hx'
        exact see_sound hM 4 (h5 i _ u (List.getElem?_eq_getElem hi) hu) hs)
       unfold Oper.wp
       rw [run_native h3 hop hrun, Oper.upon_value]
       exact hK v w S B (plainAll_any hpl hv S w B) (hM.weak fun id hi => hi.1) (fun _ h => h) (fun _ _ => rfl) (Ext.refl _)
     ·cases h2
 ·obtain ⟨x, H1, n1⟩ := r
  refine ⟨act_next h, act_dead h, act_next0 h, fun e' H' he hH => ?_⟩
  obtain ⟨H1', h1, hL⟩ := act_local h H' hH
  refine ⟨H1', hL, ?_⟩
  intro S0 L0 w0 S B F w a oper hop hM hρ hF _ K Q hK
  rw [← act_congr he] at h1
  subst hop
  obtain ⟨val, w1, S1, B1, hr, hv, hM1, h2, h3, h4⟩ := act_sound V hM hρ h1 hF
  unfold Oper.wp
  rcases hr with hr | ⟨hr, rfl⟩
  ·rw [hr, Oper.upon_value]; exact hK val w1 S1 B1 hv hM1 h2 h3 h4
  ·rw [hr, Oper.upon_skip]; exact hK _ w1 S1 B1 hv hM1 h2 h3 h4
theorem opV_case (V : Valid P C) {callD' : FuncId → List Dat → Option (List Dat)} {callR' : FuncId → List AV → Hs → Nat → Option (List AV × Hs × Nat)}
  (hD : ∀ f xs rs, callD' f xs = some rs → DSound P C f xs rs) (hR : ∀ f vs H nx r, callR' f vs H nx = some r → RSound P C f vs H nx r) {e : Operand → AV} {o : Op} {r : AV × Hs × Nat}
  (h : (match o with
   | .call { callee := .value fv, args, .. } =>
    match fnOf (e fv) with
    | none => none
    | some (f, caps) =>
     match C.sig f with
     | .raw => do
      let (vs, H1, n1) ← callR' f (args.toList.map e ++ caps) H nx
      some (tupA vs, H1, n1)
     | .dat =>
      match frzAll H (args.toList.map e ++ caps) with
      | none => none
      | some (xs, H1) => do
       let ds ← callD' f xs
       some (tupA (ds.map .d), H1, nx)
     | .scal =>
      match seeAll (see 4 H) (args.toList.map e ++ caps) with
      | none => none
      | some xs => do
       let ds ← callD' f xs
       if ds.all plainD then some (tupA (ds.map .d), H, nx) else none
   | o => act C H nx e o) = some r) : ∃ f, OpSound P C e o H nx r f ∧ (quietOp o = true → f = noFt) := by
 split at h
 ·rename_i fv args ats
  cases hfn : fnOf (e fv) with
  | none => simp [hfn] at h
  | some fc =>
   obtain ⟨f, caps⟩ := fc
   simp only [hfn] at h
   cases hsig : C.sig f with
   | raw =>
    simp only [hsig] at h
    obtain ⟨⟨vs, H1, n1⟩, h1, h2⟩ := Option.bind_eq_some_iff.1 h
    simp only [Option.some.injEq] at h2
    subst h2
    obtain ⟨hE, hn, hdd, hS⟩ := hR _ _ _ _ _ h1
    refine ⟨wholeFt, ⟨hn, hdd, fun h0 => absurd trivial (h0 0), fun e' H' he hH => ?_⟩, fun hq => by simp [quietOp] at hq⟩
    have hHH : H' = H := funext fun id => hH id (.inl trivial)
    subst hHH
    refine ⟨H1, ⟨fun _ _ => rfl, fun id hm => absurd trivial hm⟩, ?_⟩
    intro S0 L0 w0 S B F w a oper hop hM hρ hF hFw K Q hK
    have h7 := hρ fv (by simp [Op.operands, Call.operands])
    rw [he fv (by simp [Op.operands, Call.operands])] at h7
    obtain ⟨us, h3, h8, h9⟩ := fnOf_sound h7 hfn
    obtain ⟨h4, h5⟩ := args_of (e := e) (ρ := a.eval) (args := args) (fun x hx => by
     have := hρ x (by simp [Op.operands, Call.operands, hx])
     rwa [he x (by simp [Op.operands, Call.operands, hx])] at this) h8 h9
    unfold Oper.wp
    rw [run_call hE h3 hop, Oper.upon_enter]
    have hF' := hFw fun _ => trivial
    refine Calls.mono' (hS S0 L0 w0 S B w _ (hM.weak fun id hi => (hF' id).2 hi) h4 h5) ?_
    intro e1 w1 hr
    cases e1 with
    | returned v =>
     obtain ⟨S1, B1, h6, h7, h8, h9, h10⟩ := hr
     exact hK v w1 S1 B1 h6 (h7.weak fun id hi => by have := (hF' id).1 hi.1; rcases hi.2 with h | h <;> omega) h8 h9 h10
    | _ => exact hr.elim
   | dat =>
    simp only [hsig] at h
    exact ⟨_, opF_case V hD hR (o := .call ⟨.value fv, args, ats⟩) (by simp only [hfn, hsig]; exact h), footA_quiet⟩
   | scal =>
    simp only [hsig] at h
    exact ⟨_, opF_case V hD hR (o := .call ⟨.value fv, args, ats⟩) (by simp only [hfn, hsig]; exact h), footA_quiet⟩
 ·rename_i hno
  refine ⟨_, opF_case V hD hR (o := o) ?_, footA_quiet⟩
  split
  ·rename_i fv args ats
   exact absurd rfl (hno fv args ats)
  ·exact h
end
end Go.Jv
namespace Go.Jv
inductive Tr (P : Program) (C : Cfg) (ops : Array Oper) : List Oper → St → List Ft → St → Prop where
 | nil (s : St) : Tr P C ops [] s [] s
 | skip (o : Oper) (rest : List Oper) (s : St) (fs : List Ft) (s' : St) (hw : wantedA ops s.regs o = some false) (h : Tr P C ops rest { s with regs := putR s.regs o.dst .undef } fs s') : Tr P C ops (o :: rest) s (noFt :: fs) s'
 | go (o : Oper) (rest : List Oper) (s : St) (v : AV) (H1 : Hs) (n1 : Nat) (f : Ft) (fs : List Ft) (s' : St) (hw : wantedA ops s.regs o = some true) (ho : OpSound P C (ev C s) o.op s.homes s.next (v, H1, n1) f) (hq : quietOp o.op = true → f = noFt)
   (h : Tr P C ops rest { regs := putR s.regs o.dst v, homes := H1, next := n1 } fs s') : Tr P C ops (o :: rest) s (f :: fs) s'
section
variable {P : Program} {C : Cfg} {S0 : Nat → Prop} {L0 : Lz} {w0 : World} {S : Nat → Prop} {B : Nat → Option Pl} {H : Hs} {F : Nat → Prop} {nx : Nat} {w : World}
theorem cav_sound {v : Value} (h : v.oneCell' = true) : AVR S w B (cav v) v := by
 unfold cav
 split
 ·exact .d _ _ (.int ..)
 ·exact .d _ _ (.bool ..)
 ·exact .d _ _ (.str ..)
 ·exact .nil
 ·exact .d _ _ (.cst _ h)
theorem eval_sound (hM : Mem C S0 L0 w0 S B H F w) {regs : Nat → AV} {a : Act} (hR : RegsR S w B regs a.tmps) {x : Operand} (hx : tmpsOk a.tmps.size x = true) {H' : Hs} {nx : Nat} : AVR S w B (ev C ⟨regs, H', nx⟩ x) (a.eval x) := by
 cases x with
 | tmp t => exact hR t (by simpa [tmpsOk] using hx)
 | const v => exact cav_sound (by simpa [tmpsOk] using hx)
 | global g =>
  simp only [ev, Act.eval]
  split
  ·rename_i cs hg; exact .d _ _ (hM.glob g cs hg)
  ·exact .bad _
 | func f => exact .d _ _ (.fn f [] #[] rfl (fun j c u hj => by simp at hj))
theorem wanted_sound {regs : Nat → AV} {tmps : Array Value} (hR : RegsR S w B regs tmps) {ops : Array Oper} (hok : ∀ o ∈ ops, operOk tmps.size o = true) {o : Oper} {b : Bool} (h : wantedA ops regs o = some b) :
  Region.wanted o (yielded ops tmps) = b := by
 unfold wantedA at h
 unfold Region.wanted
 cases hg : o.guard with
 | none => simp only [hg, Option.some.injEq] at h; simpa using h
 | some q =>
  obtain ⟨j, c⟩ := q
  simp only [hg] at h ⊢
  cases ht : (ops[j]?).bind (·.dst) with
  | none => simp [ht] at h
  | some t =>
   simp only [ht] at h
   obtain ⟨y, hy, hd⟩ := Option.bind_eq_some_iff.1 ht
   have hlt : t < tmps.size := by
    have := hok y (Array.mem_of_getElem? hy)
    simp only [operOk, hd, Bool.and_eq_true, decide_eq_true_eq] at this
    exact this.2
   have hr := hR t hlt
   have hget : tmps[t]? = some (tmps.getD t Go.undef) := by simp [Array.getElem?_eq_getElem hlt]
   split at h
   ·rename_i c' hc
    rw [hc] at hr
    have hv := hr.dV.boolV
    cases h
    simp only [yielded, ht, Option.bind_some, hget, hv]
    cases c' <;> cases c <;> rfl
   ·rename_i hc
    rw [hc] at hr
    cases h
    generalize tmps.getD t Go.undef = v at hr hget
    cases hr
    simp only [yielded, ht, Option.bind_some, hget]
    rfl
   ·cases h
structure At (C : Cfg) (S0 : Nat → Prop) (L0 : Lz) (w0 : World) (a0 : Act) (S : Nat → Prop) (w : World) (B : Nat → Option Pl) (regs : Nat → AV) (H : Hs) (F : Nat → Prop) (a1 : Act) (w1 : World) (S1 : Nat → Prop) (B1 : Nat → Option Pl) : Prop where
 mem : Mem C S0 L0 w0 S1 B1 H F w1
 regs : RegsR S1 w1 B1 regs a1.tmps
 size : a1.tmps.size = a0.tmps.size
 defers : a1.defers = a0.defers
 sub : ∀ b, S b → S1 b
 same : Same S w w1
 ext : Ext B B1
variable {a0 a1 : Act} {w1 : World} {S1 : Nat → Prop} {B1 : Nat → Option Pl} {regs : Nat → AV}
theorem Act.put_size (a : Act) (dst : Option Tmp) (v : Value) : (a.put dst v).tmps.size = a.tmps.size := by cases dst <;> simp [Act.put]
theorem Act.put_defers' (a : Act) (dst : Option Tmp) (v : Value) : (a.put dst v).defers = a.defers := by cases dst <;> rfl
theorem At.put (h : At C S0 L0 w0 a0 S w B regs H F a1 w1 S1 B1) (dst : Option Tmp) {x : AV} {v : Value} {w2 : World} {S2 : Nat → Prop} {B2 : Nat → Option Pl} {H2 : Hs} {F2 : Nat → Prop}
  (hv : AVR S2 w2 B2 x v) (hM : Mem C S0 L0 w0 S2 B2 H2 F2 w2) (hS : ∀ b, S1 b → S2 b) (hs : Same S1 w1 w2) (hE : Ext B1 B2) : At C S0 L0 w0 a0 S w B (putR regs dst x) H2 F2 (a1.put dst v) w2 S2 B2 :=
 ⟨hM, (h.regs.mono hS hs hE).put dst hv, (Act.put_size ..).trans h.size, (Act.put_defers' ..).trans h.defers, fun b hb => hS b (h.sub b hb), fun b hb => (hs b (h.sub b hb)).trans (h.same b hb), h.ext.trans hE⟩
theorem operOk_operand {n : Nat} {o : Oper} (h : operOk n o = true) {x : Operand} (hx : x ∈ o.op.operands) : tmpsOk n x = true := by
 simp only [operOk, Bool.and_eq_true] at h
 exact Array.all_eq_true_iff_forall_mem.1 h.1 x hx
theorem Tr.wp {ops : Array Oper} (hok : ∀ o ∈ ops, operOk a0.tmps.size o = true) {Q : Exit → Act → World → Prop} {l : List Oper} {s : St} {fs : List Ft} {s' : St} (hT : Tr P C ops l s fs s') :
  ∀ (k : Nat), l = ops.toList.drop k → ∀ {a1 w1 S1 B1}, At C S0 L0 w0 a0 S w B s.regs s.homes (fun id => s.next ≤ id) a1 w1 S1 B1 →
  (∀ a2 w2 S2 B2, At C S0 L0 w0 a0 S w B s'.regs s'.homes (fun id => s'.next ≤ id) a2 w2 S2 B2 → Q .normal a2 w2) → wpOps P ops Q (List.range' k (ops.size - k)) a1 w1 := by
 induction hT with
 | nil s =>
  intro k hk a1 w1 S1 B1 hA hQ
  have : ops.size - k = 0 := by
   have := congrArg List.length hk
   simp at this; omega
  rw [this]
  exact hQ _ _ _ _ hA
 | skip o rest s fs s' hw hT ih =>
  intro k hk a1 w1 S1 B1 hA hQ
  have hlen := congrArg List.length hk
  simp only [List.length_cons, List.length_drop, Array.length_toList] at hlen
  have hget : ops[k]? = some o := by
   have : (ops.toList.drop k)[0]? = some o := by rw [← hk]; rfl
   simpa using this
  have hrest : rest = ops.toList.drop (k + 1) := by
   have := congrArg List.tail hk
   simpa using this
  obtain ⟨m, hm⟩ : ∃ m, ops.size - k = m + 1 := ⟨ops.size - k - 1, by omega⟩
  rw [hm, List.range'_succ, wpOps_cons]
  unfold wpOp
  have hwn := wanted_sound hA.regs (fun o ho => by rw [hA.size]; exact hok o ho) hw
  rw [hget]
  simp only [hwn, Bool.false_eq_true, if_false]
  have hm' : m = ops.size - (k + 1) := by omega
  rw [hm']
  exact ih (k + 1) hrest (hA.put o.dst .undef hA.mem (fun _ h => h) (fun _ _ => rfl) (Ext.refl _)) hQ
 | go o rest s v H1 n1 f fs s' hw ho _ hT ih =>
  intro k hk a1 w1 S1 B1 hA hQ
  have hlen := congrArg List.length hk
  simp only [List.length_cons, List.length_drop, Array.length_toList] at hlen
  have hget : ops[k]? = some o := by
   have : (ops.toList.drop k)[0]? = some o := by rw [← hk]; rfl
   simpa using this
  have hrest : rest = ops.toList.drop (k + 1) := by
   have := congrArg List.tail hk
   simpa using this
  obtain ⟨m, hm⟩ : ∃ m, ops.size - k = m + 1 := ⟨ops.size - k - 1, by omega⟩
  rw [hm, List.range'_succ, wpOps_cons]
  unfold wpOp
  have hwn := wanted_sound hA.regs (fun o ho => by rw [hA.size]; exact hok o ho) hw
  rw [hget]
  simp only [hwn, if_true]
  left
  have hm' : m = ops.size - (k + 1) := by omega
  rw [hm']
  have hoo := hok o (Array.mem_of_getElem? hget)
  obtain ⟨hn, _, _, hS⟩ := ho
  obtain ⟨H1', hL, hS⟩ := hS (ev C s) s.homes (fun _ _ => rfl) (fun _ _ => rfl)
  have hH : H1' = H1 := funext fun id => by
   by_cases hmd : f.mods id
   ·exact hL.1 id hmd
   ·exact (hL.2 id hmd).1.trans (hL.2 id hmd).2.symm
  subst hH
  refine hS a1 o rfl hA.mem (fun x hx => eval_sound hA.mem hA.regs (by rw [hA.size]; exact operOk_operand hoo hx)) (fun id h1 _ => h1) (fun _ id => Iff.rfl) _ Q ?_
  intro val w2 S2 B2 hv hM hS2 hs hE
  exact ih (k + 1) hrest (hA.put o.dst hv (hM.weak fun id hi => ⟨Nat.le_trans hn hi, .inr hi⟩) hS2 hs hE) hQ
end
end Go.Jv
namespace Go.Jv
theorem clash_wl {f g : Ft} (h1 : ∀ id, f.md id) (h2 : ¬ ∀ id, ¬ g.md id) : clash f g := by
 obtain ⟨id, h3⟩ := Classical.not_forall.1 h2
 exact ⟨id, .inl ⟨h1 id, .inr (Classical.not_not.1 h3)⟩⟩
theorem clash_wr {f g : Ft} (h1 : ¬ ∀ id, ¬ f.md id) (h2 : ∀ id, g.md id) : clash f g := by
 obtain ⟨id, h3⟩ := Classical.not_forall.1 h1
 exact ⟨id, .inl ⟨Classical.not_not.1 h3, .inr (h2 id)⟩⟩
theorem clash_mr {f g : Ft} {id : Nat} (h1 : f.mods id) (h2 : g.looks id) : clash f g := ⟨id, .inl ⟨h1, .inl h2⟩⟩
theorem clash_mm {f g : Ft} {id : Nat} (h1 : f.mods id) (h2 : g.mods id) : clash f g := ⟨id, .inl ⟨h1, .inr h2⟩⟩
theorem clash_rm {f g : Ft} {id : Nat} (h1 : f.looks id) (h2 : g.mods id) : clash f g := ⟨id, .inr ⟨h1, h2⟩⟩
def edgeTo (acc : List (List Nat)) (o : Oper) : List Nat := (o.after.toList.flatMap fun e => if Region.binds .any e then e.on :: acc.getD e.on [] else []).eraseDups
theorem preds_snoc (l : List Oper) (o : Oper) : preds (l ++ [o]) = preds l ++ [edgeTo (preds l) o] := by simp [preds, edgeTo, List.foldl_append]
theorem snoc_ind {α : Type} {p : List α → Prop} (h0 : p []) (h1 : ∀ l a, p l → p (l ++ [a])) (l : List α) : p l := by
 have : ∀ l : List α, p l.reverse := fun l => by
  induction l with
  | nil => exact h0
  | cons a l ih => rw [List.reverse_cons]; exact h1 _ _ ih
 simpa using this l.reverse
theorem preds_length (l : List Oper) : (preds l).length = l.length := by
 refine snoc_ind (p := fun l => (preds l).length = l.length) rfl (fun l o ih => ?_) l
 rw [preds_snoc]; simp [ih]
theorem preds_take (l : List Oper) : ∀ (i : Nat) o, l[i]? = some o → (preds l).getD i [] = edgeTo (preds (l.take i)) o ∧ ∀ k, k < i → (preds (l.take i)).getD k [] = (preds l).getD k [] := by
 refine snoc_ind (p := fun l => ∀ (i : Nat) o, l[i]? = some o → (preds l).getD i [] = edgeTo (preds (l.take i)) o ∧ ∀ k, k < i → (preds (l.take i)).getD k [] = (preds l).getD k []) ?_ ?_ l
 ·intro i o h; simp at h
 ·intro l o' ih i o h
  have hl := preds_length l
  rw [preds_snoc]
  by_cases hi : i < l.length
  ·rw [List.getElem?_append_left hi] at h
   obtain ⟨h1, h2⟩ := ih i o h
   have ht : (l ++ [o']).take i = l.take i := List.take_append_of_le_length (by omega)
   rw [ht]
   refine ⟨?_, fun k hk => ?_⟩
   ·rw [← h1]; simp [List.getD_eq_getElem?_getD, List.getElem?_append_left (by omega : i < (preds l).length)]
   ·rw [h2 k hk]; simp [List.getD_eq_getElem?_getD, List.getElem?_append_left (by omega : k < (preds l).length)]
  ·have hi' : i = l.length := by
    have := (List.getElem?_eq_some_iff.1 h).1
    simp at this; omega
   subst hi'
   rw [List.getElem?_append_right (Nat.le_refl _)] at h
   simp at h
   subst h
   have ht : (l ++ [o']).take l.length = l := by simp
   rw [ht]
   refine ⟨?_, fun k hk => ?_⟩
   ·simp [List.getD_eq_getElem?_getD, List.getElem?_append_right (by omega : (preds l).length ≤ l.length), hl]
   ·simp [List.getD_eq_getElem?_getD, List.getElem?_append_left (by omega : k < (preds l).length)]
theorem preds_closed {ops : Array Oper} (hb : edgesBack ops = true) {L : Nat → Prop} (hL : ∀ i o, L i → ops[i]? = some o → ∀ e ∈ o.after, Region.binds .any e = true → L e.on) :
  ∀ (i : Nat), L i → i < ops.size → ∀ j, j ∈ (preds ops.toList).getD i [] → L j ∧ j < i := by
 intro i
 induction i using Nat.strongRecOn with
 | _ i ih =>
  intro hi hlt j hj
  have ho : ops.toList[i]? = some ops[i] := by simp [hlt]
  obtain ⟨h1, h2⟩ := preds_take ops.toList i _ ho
  rw [h1] at hj
  simp only [edgeTo, List.mem_eraseDups, List.mem_flatMap] at hj
  obtain ⟨e, he, hj⟩ := hj
  split at hj
  ·rename_i hbd
   have he' : e ∈ ops[i].after := by simpa using he
   have hlt2 : e.on < i := by
    have := List.all_eq_true.1 hb (ops[i], i) (by
     rw [List.mem_zipIdx_iff_getElem?]
     simp [hlt])
    have := List.all_eq_true.1 this e he
    simpa [hbd] using this
   have hLe := hL i _ hi (by simp [hlt]) e he' hbd
   simp only [List.mem_cons] at hj
   rcases hj with rfl | hj
   ·exact ⟨hLe, hlt2⟩
   ·rw [h2 _ hlt2] at hj
    obtain ⟨h3, h4⟩ := ih e.on hlt2 hLe (by omega) j hj
    exact ⟨h3, by omega⟩
  ·simp at hj
section
variable {P : Program} {C : Cfg} {S0 : Nat → Prop} {L0 : Lz} {w0 : World} {S : Nat → Prop} {B : Nat → Option Pl} {H : Hs} {F : Nat → Prop} {nx : Nat} {w : World}
def StepT (P : Program) (C : Cfg) (ops : Array Oper) (st : Nat → St) (fs : List Ft) (i : Nat) (o : Oper) : Prop :=
 (wantedA ops (st i).regs o = some false ∧ st (i + 1) = { st i with regs := putR (st i).regs o.dst .undef } ∧ fs[i]? = some noFt) ∨
 ∃ v H1 n1 f, wantedA ops (st i).regs o = some true ∧ OpSound P C (ev C (st i)) o.op (st i).homes (st i).next (v, H1, n1) f ∧ st (i + 1) = ⟨putR (st i).regs o.dst v, H1, n1⟩ ∧
  fs[i]? = some f ∧ (quietOp o.op = true → f = noFt)
theorem Tr.trace {ops : Array Oper} {l : List Oper} {s : St} {fs : List Ft} {s' : St} (hT : Tr P C ops l s fs s') :
  ∃ st : Nat → St, st 0 = s ∧ st l.length = s' ∧ ∀ (i : Nat) o, l[i]? = some o → StepT P C ops st fs i o := by
 induction hT with
 | nil s => exact ⟨fun _ => s, rfl, rfl, fun i o h => by simp at h⟩
 | skip o rest s fs s' hw hT ih =>
  obtain ⟨st, h0, hn, hs⟩ := ih
  refine ⟨fun i => match i with | 0 => s | i + 1 => st i, rfl, hn, fun i o' h => ?_⟩
  match i with
  | 0 => simp at h; subst h; exact .inl ⟨hw, h0, rfl⟩
  | i + 1 => exact hs i o' (by simpa using h)
 | go o rest s v H1 n1 f fs s' hw ho hq hT ih =>
  obtain ⟨st, h0, hn, hs⟩ := ih
  refine ⟨fun i => match i with | 0 => s | i + 1 => st i, rfl, hn, fun i o' h => ?_⟩
  match i with
  | 0 => simp at h; subst h; exact .inr ⟨v, H1, n1, f, hw, ho, h0, rfl, hq⟩
  | i + 1 => exact hs i o' (by simpa using h)
variable {ops : Array Oper} {st : Nat → St} {fs : List Ft}
def Mods (fs : List Ft) (i id : Nat) : Prop := ∃ f, fs[i]? = some f ∧ f.mods id
def Writes (ops : Array Oper) (i : Nat) (t : Tmp) : Prop := ∃ o, ops[i]? = some o ∧ o.dst = some t
theorem putR_other {regs : Nat → AV} {dst : Option Tmp} {v : AV} {t : Tmp} (h : dst ≠ some t) : putR regs dst v t = regs t := by
 cases dst with
 | none => rfl
 | some d => simp only [putR, upd]; rw [if_neg]; rintro rfl; exact h rfl
theorem step_regs (hs : ∀ i o, ops[i]? = some o → StepT P C ops st fs i o) {i : Nat} (hi : i < ops.size) {t : Tmp} (h : ¬ Writes ops i t) : (st (i + 1)).regs t = (st i).regs t := by
 have ho : ops[i]? = some ops[i] := by simp [hi]
 have hd : ops[i].dst ≠ some t := fun e => h ⟨_, ho, e⟩
 rcases hs i _ ho with ⟨_, h2, _⟩ | ⟨v, H1, n1, f, _, _, h2, _⟩ <;> rw [h2] <;> exact putR_other hd
theorem step_homes (hs : ∀ i o, ops[i]? = some o → StepT P C ops st fs i o) {i : Nat} (hi : i < ops.size) {id : Nat} (h : ¬ Mods fs i id) : (st (i + 1)).homes id = (st i).homes id := by
 have ho : ops[i]? = some ops[i] := by simp [hi]
 rcases hs i _ ho with ⟨_, h2, _⟩ | ⟨v, H1, n1, f, _, h3, h2, hf, _⟩
 ·rw [h2]
 ·rw [h2]
  obtain ⟨_, _, _, h4⟩ := h3
  obtain ⟨H1', hL, _⟩ := h4 _ _ (fun _ _ => rfl) (fun _ _ => rfl)
  exact (hL.2 id (fun hm => h ⟨_, hf, hm⟩)).2
theorem step_next (hs : ∀ i o, ops[i]? = some o → StepT P C ops st fs i o) {i : Nat} (hi : i < ops.size) : (st i).next ≤ (st (i + 1)).next ∧ (∀ f, fs[i]? = some f → (∀ id, ¬ f.md id) → (st (i + 1)).next = (st i).next) := by
 have ho : ops[i]? = some ops[i] := by simp [hi]
 rcases hs i _ ho with ⟨_, h2, _⟩ | ⟨v, H1, n1, f, _, h3, h2, hf, _⟩
 ·rw [h2]; exact ⟨Nat.le_refl _, fun _ _ _ => rfl⟩
 ·rw [h2]; exact ⟨h3.1, fun f hf' hm => by rw [hf] at hf'; cases hf'; exact h3.2.2.1 hm⟩
theorem run_stable {α : Type} {g : Nat → α} {n : Nat} {p : Nat → Prop} (hs : ∀ i, i < n → ¬ p i → g (i + 1) = g i) : ∀ (a b : Nat), a ≤ b → b ≤ n → (∀ j, a ≤ j → j < b → ¬ p j) → g b = g a := by
 intro a b hab
 induction b with
 | zero => intro _ _; have : a = 0 := by omega
           rw [this]
 | succ b ih =>
  intro hn hp
  by_cases e : a = b + 1
  ·rw [e]
  ·rw [hs b (by omega) (hp b (by omega) (by omega))]
   exact ih (by omega) (by omega) fun j h1 h2 => hp j h1 (by omega)
theorem next_mono (hs : ∀ i o, ops[i]? = some o → StepT P C ops st fs i o) : ∀ (a b : Nat), a ≤ b → b ≤ ops.size → (st a).next ≤ (st b).next := by
 intro a b hab
 induction b with
 | zero => intro _; have : a = 0 := by omega
           rw [this]; exact Nat.le_refl _
 | succ b ih =>
  intro hn
  by_cases e : a = b + 1
  ·rw [e]; exact Nat.le_refl _
  ·exact Nat.le_trans (ih (by omega) (by omega)) (step_next hs (by omega)).1
theorem next_between (st : Nat → St) (ops : Array Oper) {id : Nat} : ∀ (b : Nat), b ≤ ops.size → (st 0).next ≤ id → id < (st b).next → ∃ j, j < b ∧ (st j).next ≤ id ∧ id < (st (j + 1)).next := by
 intro b
 induction b with
 | zero => intro _ h1 h2; omega
 | succ b ih =>
  intro hb h1 h2
  by_cases h3 : id < (st b).next
  ·obtain ⟨j, h4, h5⟩ := ih (by omega) h1 h3
   exact ⟨j, by omega, h5⟩
  ·exact ⟨b, by omega, by omega, h2⟩
theorem countP_lt {p q : Nat → Bool} : ∀ {l : List Nat}, (∀ x ∈ l, q x = true → p x = true) → ∀ x0 ∈ l, p x0 = true → q x0 = false → l.countP q < l.countP p
 | [], _, x0, h, _, _ => by simp at h
 | x :: l, hpq, x0, h, hp, hq => by
  have hle : l.countP q ≤ l.countP p := List.countP_mono_left fun y hy hqy => hpq y (by simp [hy]) hqy
  by_cases e : x0 = x
  ·subst e
   rw [List.countP_cons_of_neg (by simp [hq]), List.countP_cons_of_pos hp]
   omega
  ·have h2 := countP_lt (l := l) (fun y hy => hpq y (List.mem_cons_of_mem _ hy)) x0 (by simpa [e] using h) hp hq
   by_cases hqx : q x = true
   ·rw [List.countP_cons_of_pos hqx, List.countP_cons_of_pos (hpq x (by simp) hqx)]; omega
   ·rw [List.countP_cons_of_neg hqx]
    by_cases hpx : p x = true
    ·rw [List.countP_cons_of_pos hpx]; omega
    ·rw [List.countP_cons_of_neg hpx]; omega
theorem clash_no (f : Ft) : ¬ clash f noFt ∧ ¬ clash noFt f := by
 constructor <;> rintro ⟨i, h⟩ <;> simp [noFt, Ft.of] at h
theorem ord_home (hs : ∀ i o, ops[i]? = some o → StepT P C ops st fs i o) (hp : pairsOk fs (unord ops.toList)) {i j : Nat} (hji : j < i) (hi : i < ops.size) {f g : Ft} (hf : fs[j]? = some f) (hg : fs[i]? = some g)
  (hc : clash f g) : j ∈ (preds ops.toList).getD i [] := by
 refine Classical.byContradiction fun hn => ?_
 have hoi : ops[i]? = some ops[i] := by simp [hi]
 have hoj : ops[j]? = some (ops[j]'(by omega)) := by simp [show j < ops.size by omega]
 have hq : ∀ (k : Nat) (o : Oper) (h : Ft), ops[k]? = some o → fs[k]? = some h → quietOp o.op = true → h = noFt := by
  intro k o h ho hk hq
  rcases hs k o ho with ⟨_, _, h2⟩ | ⟨v, H1, n1, f, _, _, _, h2, h3⟩
  ·rw [h2] at hk; exact (Option.some.inj hk).symm
  ·rw [h2, h3 hq] at hk; exact (Option.some.inj hk).symm
 have hqi : quietOp ops[i].op = false := by
  cases h : quietOp ops[i].op with
  | false => rfl
  | true => rw [hq i _ g hoi hg h] at hc; exact absurd hc (clash_no f).1
 have hqj : quietOp (ops[j]'(by omega)).op = false := by
  cases h : quietOp (ops[j]'(by omega)).op with
  | false => rfl
  | true => rw [hq j _ f hoj hf h] at hc; exact absurd hc (clash_no g).2
 have hmem : (j, i) ∈ unord ops.toList := by
  simp only [unord, List.mem_flatMap, List.mem_range, List.mem_filterMap]
  refine ⟨i, by simpa using hi, j, hji, ?_⟩
  have h1 : ((preds ops.toList).getD i []).contains j = false := by
   cases h : ((preds ops.toList).getD i []).contains j with
   | false => rfl
   | true => exact absurd (List.contains_iff_mem.1 h) hn
  have h2 : ∀ k (hk : k < ops.size), (ops.toList.map (·.op)).getD k (.move (.const (.bool true))) = ops[k].op := by
   intro k hk
   simp [List.getD_eq_getElem?_getD, hk]
  rw [h1, h2 i hi, h2 j (by omega), hqi, hqj]
  rfl
 exact hp _ hmem f g hf hg hc
theorem ord_tmp (ht : tmpsApart ops = true) {i j : Nat} (hji : j < i) (hi : i < ops.size) {x y : Oper} (hx : ops[i]? = some x) (hy : ops[j]? = some y) {t : Tmp}
  (hc : (x.dst = some t ∧ (y.dst = some t ∨ t ∈ y.looksAt ops)) ∨ (y.dst = some t ∧ t ∈ x.looksAt ops)) : j ∈ (preds ops.toList).getD i [] := by
 have h1 := List.all_eq_true.1 (List.all_eq_true.1 ht i (by simpa using hi)) j (by simpa using hji)
 simp only [hx, hy, Bool.or_eq_true, Bool.and_eq_true] at h1
 rcases h1 with h1 | ⟨h1, h2⟩
 ·exact List.contains_iff_mem.1 h1
 ·obtain ⟨a1, a2, a3⟩ := Oper.apart_spec h1
  rcases hc with ⟨h3, h4 | h4⟩ | ⟨h3, h4⟩
  ·exact absurd h4 (a2 t h3)
  ·exact absurd h4 (a1 t h3)
  ·exact absurd h4 (a3 t h3)
theorem wanted_congr {R R' : Nat → AV} {o : Oper} (h : ∀ t ∈ o.looksAt ops, R t = R' t) : wantedA ops R o = wantedA ops R' o := by
 unfold wantedA
 cases hg : o.guard with
 | none => rfl
 | some q =>
  obtain ⟨j, c⟩ := q
  simp only
  cases ht : (ops[j]?).bind (·.dst) with
  | none => rfl
  | some t =>
   simp only
   rw [h t (by simp [Oper.looksAt, hg, ht])]
theorem ev_congr {R R' : Nat → AV} {H H' : Hs} {n n' : Nat} {o : Oper} (h : ∀ t ∈ o.looksAt ops, R t = R' t) : ∀ x ∈ o.op.operands, ev C ⟨R, H, n⟩ x = ev C ⟨R', H', n'⟩ x := by
 intro x hx
 cases x with
 | tmp t => exact h t (by simp only [Oper.looksAt, List.mem_append, List.mem_filterMap]; exact .inl ⟨.tmp t, by simpa using hx, rfl⟩)
 | _ => rfl
structure Mid (C : Cfg) (ops : Array Oper) (st : Nat → St) (fs : List Ft) (L : Nat → Prop) (R : Nat → AV) (H : Hs) (F : Nat → Prop) : Prop where
 regs : ∀ t k, k ≤ ops.size → (∀ j, j < k → Writes ops j t → L j) → (∀ j, k ≤ j → j < ops.size → Writes ops j t → ¬ L j) → R t = (st k).regs t
 homes : ∀ id k, k ≤ ops.size → (∀ j, j < k → Mods fs j id → L j) → (∀ j, k ≤ j → j < ops.size → Mods fs j id → ¬ L j) → H id = (st k).homes id
 free : ∀ id, F id ↔ (st 0).next ≤ id ∧ ∀ j, j < ops.size → L j → id < (st j).next ∨ (st (j + 1)).next ≤ id
variable {a0 a1 : Act} {w1 : World} {S1 : Nat → Prop} {B1 : Nat → Option Pl} {R : Nat → AV} {L : Nat → Prop}
section
variable (hs : ∀ i o, ops[i]? = some o → StepT P C ops st fs i o) (hp : pairsOk fs (unord ops.toList)) (ht : tmpsApart ops = true) (hb : edgesBack ops = true)
variable (hL : ∀ i o, L i → ops[i]? = some o → ∀ e ∈ o.after, Region.binds .any e = true → L e.on)
include hs hp ht hb hL
theorem Mid.same (hM : Mid C ops st fs L R H F) {i : Nat} {o : Oper} (ho : ops[i]? = some o) (hni : ¬ L i) (hpre : ∀ j, j ∈ (preds ops.toList).getD i [] → L j) :
  (∀ t ∈ o.looksAt ops, R t = (st i).regs t) ∧ ∀ f, fs[i]? = some f → ∀ id, f.looks id ∨ f.mods id → H id = (st i).homes id := by
 have hi : i < ops.size := (Array.getElem?_eq_some_iff.1 ho).1
 refine ⟨fun t hto => hM.regs t i (by omega) ?_ ?_, fun f hf id hid => hM.homes id i (by omega) ?_ ?_⟩
 ·rintro j hj ⟨y, hy, hd⟩
  exact hpre j (ord_tmp ht hj hi ho hy (.inr ⟨hd, hto⟩))
 ·rintro j hij hj ⟨y, hy, hd⟩ hLj
  by_cases e : j = i
  ·subst e; exact hni hLj
  ·exact hni (preds_closed hb hL j hLj hj i (ord_tmp ht (by omega) hj hy ho (.inl ⟨hd, .inr hto⟩))).1
 ·rintro j hj ⟨g, hg, hm⟩
  exact hpre j (ord_home hs hp hj hi hg hf (hid.elim (clash_mr hm) (clash_mm hm)))
 ·rintro j hij hj ⟨g, hg, hm⟩ hLj
  by_cases e : j = i
  ·subst e; exact hni hLj
  ·exact hni (preds_closed hb hL j hLj hj i (ord_home hs hp (by omega) hj hf hg (hid.elim (fun h => clash_rm h hm) (fun h => clash_mm h hm)))).1
theorem Mid.next (hM : Mid C ops st fs L R H F) {i : Nat} {o : Oper} (ho : ops[i]? = some o) (hni : ¬ L i) {x : AV} {H1' : Hs} (hx : (st (i + 1)).regs = putR (st i).regs o.dst x)
  (hm : ∀ id, Mods fs i id → H1' id = (st (i + 1)).homes id) (hnm : ∀ id, ¬ Mods fs i id → H1' id = H id) :
  Mid C ops st fs (fun j => L j ∨ j = i) (putR R o.dst x) H1' (took F (st i).next (st (i + 1)).next) := by
 have hi : i < ops.size := (Array.getElem?_eq_some_iff.1 ho).1
 have hstR : ∀ t, ∀ a b, a ≤ b → b ≤ ops.size → (∀ j, a ≤ j → j < b → ¬ Writes ops j t) → (st b).regs t = (st a).regs t := fun t =>
  run_stable (g := fun k => (st k).regs t) (p := fun j => Writes ops j t) (fun j hj hw => step_regs hs hj hw)
 have hstH : ∀ id, ∀ a b, a ≤ b → b ≤ ops.size → (∀ j, a ≤ j → j < b → ¬ Mods fs j id) → (st b).homes id = (st a).homes id := fun id =>
  run_stable (g := fun k => (st k).homes id) (p := fun j => Mods fs j id) (fun j hj hw => step_homes hs hj hw)
 refine ⟨fun t k hk h1 h2 => ?_, fun id k hk h1 h2 => ?_, fun id => ?_⟩
 ·by_cases hw : o.dst = some t
  ·have hik : i < k := by
    refine Classical.byContradiction fun hn => ?_
    exact h2 i (by omega) hi ⟨o, ho, hw⟩ (.inr rfl)
   rw [hstR t (i + 1) k hik hk ?_]
   ·rw [hx, hw]; simp [putR, upd]
   ·rintro j hij hjk ⟨y, hy, hd⟩
    rcases h1 j hjk ⟨y, hy, hd⟩ with h3 | h3
    ·exact hni (preds_closed hb hL j h3 (by omega) i (ord_tmp ht (by omega) (by omega) hy ho (.inl ⟨hd, .inl hw⟩))).1
    ·omega
  ·rw [putR_other hw]
   refine hM.regs t k hk ?_ ?_
   ·intro j hj hwj
    rcases h1 j hj hwj with h3 | rfl
    ·exact h3
    ·obtain ⟨y, hy, hd⟩ := hwj
     rw [ho] at hy; cases hy; exact absurd hd hw
   ·exact fun j hkj hj hwj hLj => h2 j hkj hj hwj (.inl hLj)
 ·by_cases hw : Mods fs i id
  ·have hik : i < k := by
    refine Classical.byContradiction fun hn => ?_
    exact h2 i (by omega) hi hw (.inr rfl)
   rw [hm id hw, hstH id (i + 1) k hik hk ?_]
   rintro j hij hjk ⟨g, hg, hmj⟩
   rcases h1 j hjk ⟨g, hg, hmj⟩ with h3 | h3
   ·obtain ⟨f, hf, hmi⟩ := hw
    exact hni (preds_closed hb hL j h3 (by omega) i (ord_home hs hp (by omega) (by omega) hf hg (clash_mm hmi hmj))).1
   ·omega
  ·rw [hnm id hw]
   refine hM.homes id k hk ?_ ?_
   ·intro j hj hwj
    rcases h1 j hj hwj with h3 | rfl
    ·exact h3
    ·exact absurd hwj hw
   ·exact fun j hkj hj hwj hLj => h2 j hkj hj hwj (.inl hLj)
 ·unfold took
  rw [hM.free]
  constructor
  ·rintro ⟨⟨h1, h2⟩, h3⟩
   refine ⟨h1, fun j hj hLj => ?_⟩
   rcases hLj with hLj | rfl
   ·exact h2 j hj hLj
   ·exact h3
  ·rintro ⟨h1, h2⟩
   exact ⟨⟨h1, fun j hj hLj => h2 j hj (.inl hLj)⟩, h2 i hi (.inr rfl)⟩
theorem Mid.room (hM : Mid C ops st fs L R H F) {i : Nat} {o : Oper} (ho : ops[i]? = some o) (hni : ¬ L i) (hpre : ∀ j, j ∈ (preds ops.toList).getD i [] → L j) :
  (∀ id, (st i).next ≤ id → id < (st (i + 1)).next → F id) ∧ ∀ f, fs[i]? = some f → (∀ id, f.md id) → ∀ id, F id ↔ (st i).next ≤ id := by
 have _ := ht
 have hi : i < ops.size := (Array.getElem?_eq_some_iff.1 ho).1
 refine ⟨fun id h1 h2 => (hM.free id).2 ⟨Nat.le_trans (next_mono hs 0 i (by omega) (by omega)) h1, fun j hj hLj => ?_⟩, fun f hf hmd id => ⟨fun hF => ?_, fun h1 => ?_⟩⟩
 ·rcases Nat.lt_trichotomy j i with h3 | h3 | h3
  ·exact .inr (Nat.le_trans (next_mono hs (j + 1) i (by omega) (by omega)) h1)
  ·subst h3; exact absurd hLj hni
  ·exact .inl (Nat.lt_of_lt_of_le h2 (next_mono hs (i + 1) j (by omega) (by omega)))
 ·obtain ⟨h1, h2⟩ := (hM.free id).1 hF
  refine Classical.byContradiction fun hn => ?_
  obtain ⟨j, hji, h3, h4⟩ := next_between st ops i (by omega) h1 (by omega)
  have hgj : ∃ g, fs[j]? = some g := by
   rcases hs j _ (by simp [show j < ops.size by omega] : ops[j]? = some (ops[j]'(by omega))) with ⟨_, _, h⟩ | ⟨_, _, _, _, _, _, _, h, _⟩ <;> exact ⟨_, h⟩
  obtain ⟨g, hg⟩ := hgj
  have hne : ¬ ∀ id, ¬ g.md id := fun e => by have := (step_next hs (by omega : j < ops.size)).2 g hg e; omega
  have hLj := hpre j (ord_home hs hp hji hi hg hf (clash_wr hne hmd))
  have := h2 j (by omega) hLj
  omega
 ·refine (hM.free id).2 ⟨Nat.le_trans (next_mono hs 0 i (by omega) (by omega)) h1, fun j hj hLj => ?_⟩
  rcases Nat.lt_trichotomy j i with h3 | h3 | h3
  ·exact .inr (Nat.le_trans (next_mono hs (j + 1) i (by omega) (by omega)) h1)
  ·subst h3; exact absurd hLj hni
  ·refine Classical.byContradiction fun hn => ?_
   have hgj : ∃ g, fs[j]? = some g := by
    rcases hs j _ (by simp [hj] : ops[j]? = some ops[j]) with ⟨_, _, h⟩ | ⟨_, _, _, _, _, _, _, h, _⟩ <;> exact ⟨_, h⟩
   obtain ⟨g, hg⟩ := hgj
   have hne : ¬ ∀ id, ¬ g.md id := fun e => by have := (step_next hs hj).2 g hg e; omega
   exact hni (preds_closed hb hL j hLj hj i (ord_home hs hp h3 hj hf hg (clash_wl hmd hne))).1
end
theorem any_order (hs : ∀ i o, ops[i]? = some o → StepT P C ops st fs i o) (hp : pairsOk fs (unord ops.toList)) (ht : tmpsApart ops = true) (hb : edgesBack ops = true)
  (hok : ∀ o ∈ ops, operOk a0.tmps.size o = true) {Q : Exit → Act → World → Prop}
  (hQ : ∀ a2 w2 S2 B2, At C S0 L0 w0 a0 S w B (st ops.size).regs (st ops.size).homes (fun id => (st ops.size).next ≤ id) a2 w2 S2 B2 → Q .normal a2 w2) :
  ∀ (fuel : Nat) (listed : Array Bool), listed.size = ops.size → (List.range ops.size).countP (fun i => !listed.getD i false) ≤ fuel →
  (∀ i o, listed.getD i false = true → ops[i]? = some o → ∀ e ∈ o.after, Region.binds .any e = true → listed.getD e.on false = true) →
  ∀ {R : Nat → AV} {H : Hs} {F : Nat → Prop} {a1 : Act} {w1 : World} {S1 : Nat → Prop} {B1 : Nat → Option Pl}, Mid C ops st fs (fun i => listed.getD i false = true) R H F → At C S0 L0 w0 a0 S w B R H F a1 w1 S1 B1 →
  wpAny P .any ops Q fuel listed a1 w1 := by
 -- all is done: the end
 have done : ∀ (listed : Array Bool), (∀ i, i < ops.size → listed.getD i false = true) →
   ∀ {R : Nat → AV} {H : Hs} {F : Nat → Prop} {a1 : Act} {w1 : World} {S1 : Nat → Prop} {B1 : Nat → Option Pl}, Mid C ops st fs (fun i => listed.getD i false = true) R H F → At C S0 L0 w0 a0 S w B R H F a1 w1 S1 B1 → Q .normal a1 w1 := by
  intro listed hall R H F a1 w1 S1 B1 hM hA
  have h1 : R = (st ops.size).regs := funext fun t => hM.regs t ops.size (Nat.le_refl _) (fun j hj _ => hall j hj) (fun j h1 h2 => by omega)
  have h2 : H = (st ops.size).homes := funext fun id => hM.homes id ops.size (Nat.le_refl _) (fun j hj _ => hall j hj) (fun j h1 h2 => by omega)
  subst h1 h2
  refine hQ a1 w1 S1 B1 ⟨hA.mem.weak fun id hid => (hM.free id).2 ⟨Nat.le_trans (next_mono hs 0 _ (Nat.zero_le _) (Nat.le_refl _)) hid, fun j hj _ => .inr (Nat.le_trans (next_mono hs (j + 1) _ (by omega) (Nat.le_refl _)) hid)⟩,
   hA.regs, hA.size, hA.defers, hA.sub, hA.same, hA.ext⟩
 -- nothing is ready: all is done
 have none_ready : ∀ (listed : Array Bool), listed.size = ops.size → Region.ready .any ops listed = [] → ∀ i, i < ops.size → listed.getD i false = true := by
  intro listed hsz hr i
  induction i using Nat.strongRecOn with
  | _ i ih =>
   intro hi
   refine Classical.byContradiction fun hn => ?_
   have : i ∈ Region.ready .any ops listed := mem_ready.2 ⟨by
     have hi' : i < listed.size := by omega
     simp [hi'] at hn ⊢; exact hn, ops[i], by simp [hi], fun e he hbd => by
    have hlt2 : e.on < i := by
     have := List.all_eq_true.1 hb (ops[i], i) (by rw [List.mem_zipIdx_iff_getElem?]; simp [hi])
     have := List.all_eq_true.1 this e (by simpa using he)
     simpa [hbd] using this
    exact ih e.on hlt2 (by omega)⟩
   rw [hr] at this
   simp at this
 intro fuel
 induction fuel with
 | zero =>
  intro listed hsz hc hcl R H F a1 w1 S1 B1 hM hA
  have hall : ∀ i, i < ops.size → listed.getD i false = true := by
   intro i hi
   have h0 : (List.range ops.size).countP (fun i => !listed.getD i false) = 0 := by omega
   have := List.countP_eq_zero.1 h0 i (by simpa using hi)
   simpa using this
  refine ⟨?_, done listed hall hM hA⟩
  apply List.eq_nil_iff_forall_not_mem.2
  intro i hi
  obtain ⟨h1, o, h2, _⟩ := mem_ready.1 hi
  have hlt : i < ops.size := (Array.getElem?_eq_some_iff.1 h2).1
  have := hall i hlt
  have hi' : i < listed.size := by omega
  simp [hi'] at h1 this
  rw [this] at h1; cases h1
 | succ fuel ih =>
  intro listed hsz hc hcl R H F a1 w1 S1 B1 hM hA
  refine ⟨fun hr => done listed (none_ready listed hsz hr) hM hA, fun i hi => ?_⟩
  obtain ⟨h1, o, ho, hedge⟩ := mem_ready.1 hi
  have hlt : i < ops.size := (Array.getElem?_eq_some_iff.1 ho).1
  have hlt' : i < listed.size := by omega
  have hni : ¬ listed.getD i false = true := by simp [hlt'] at h1 ⊢; exact h1
  have hcl' : ∀ k o', (listed.setIfInBounds i true).getD k false = true → ops[k]? = some o' → ∀ e ∈ o'.after, Region.binds .any e = true → (listed.setIfInBounds i true).getD e.on false = true := by
   intro k o' hk ho' e he hbd
   by_cases e1 : i = k
   ·subst e1
    rw [ho] at ho'; cases ho'
    exact getD_set_true (hedge e he hbd)
   ·rw [getD_set_ne false e1] at hk
    exact getD_set_true (hcl k o' hk ho' e he hbd)
  have hpre : ∀ j, j ∈ (preds ops.toList).getD i [] → listed.getD j false = true := by
   intro j hj
   have h2 := preds_closed hb (L := fun k => (listed.setIfInBounds i true).getD k false = true) hcl' i (by simp [hlt']) hlt j hj
   rw [getD_set_ne false (by omega : i ≠ j)] at h2
   exact h2.1
  have hset : (fun k => (listed.setIfInBounds i true).getD k false = true) = fun k => listed.getD k false = true ∨ k = i := by
   funext k
   by_cases e1 : i = k
   ·subst e1; simp [hlt']
   ·rw [getD_set_ne false e1]
    have : ¬ k = i := fun e => e1 e.symm
    simp [this]
  have hcount : (List.range ops.size).countP (fun k => !(listed.setIfInBounds i true).getD k false) ≤ fuel := by
   have := countP_lt (p := fun k => !listed.getD k false) (q := fun k => !(listed.setIfInBounds i true).getD k false) (l := List.range ops.size) (fun k _ hk => by
    by_cases e1 : i = k
    ·subst e1; simp [hlt'] at hk
    ·rw [getD_set_ne false e1] at hk; exact hk) i (by simpa using hlt) (by simpa using hni) (by simp [hlt'])
   omega
  obtain ⟨hregs, hhomes⟩ := hM.same hs hp ht hb hcl ho hni hpre
  obtain ⟨hroom, hwhole⟩ := hM.room hs hp ht hb hcl ho hni hpre
  have hoo := hok o (Array.mem_of_getElem? ho)
  unfold wpOp
  rw [ho]
  simp only
  rcases hs i o ho with ⟨hw, hst, hf⟩ | ⟨v, H1, n1, f, hw, hop, hst, hf, _⟩
  ·have hwn := wanted_sound hA.regs (fun o ho => by rw [hA.size]; exact hok o ho) ((wanted_congr hregs).trans hw)
   simp only [hwn, Bool.false_eq_true, if_false]
   have hno : ∀ id, ¬ Mods fs i id := by
    rintro id ⟨f, hf', hm⟩
    rw [hf] at hf'; cases hf'
    simp [Ft.mods, noFt, Ft.of] at hm
   have hM' := hM.next hs hp ht hb hcl ho hni (x := .undef) (H1' := H) (by rw [hst]) (fun id hm => absurd hm (hno id)) (fun _ _ => rfl)
   rw [← hset] at hM'
   exact ih _ (by simpa using hsz) hcount hcl' (S1 := S1) (B1 := B1) hM' <| hA.put o.dst .undef (hA.mem.weak fun id hid => hid.1) (fun _ h => h) (fun _ _ => rfl) (Ext.refl _)
  ·have hwn := wanted_sound hA.regs (fun o ho => by rw [hA.size]; exact hok o ho) ((wanted_congr hregs).trans hw)
   simp only [hwn, if_true]
   left
   obtain ⟨hn, _, _, hS⟩ := hop
   obtain ⟨H1', hL, hS⟩ := hS (ev C ⟨R, H, 0⟩) H (fun x hx => by rw [ev_congr hregs x hx (H' := (st i).homes) (n' := (st i).next)]) (hhomes _ hf)
   have hM' := hM.next hs hp ht hb hcl ho hni (x := v) (H1' := H1') (by rw [hst]) (fun id ⟨f, hf', hm⟩ => by rw [hf] at hf'; cases hf'; rw [hst]; exact hL.1 id hm)
    (fun id hm => (hL.2 id fun h => hm ⟨_, hf, h⟩).1)
   rw [← hset] at hM'
   have hnext : (st (i + 1)).next = n1 := by rw [hst]
   refine hS a1 o rfl hA.mem (fun x hx => eval_sound hA.mem hA.regs (by rw [hA.size]; exact operOk_operand hoo hx)) (fun id h1 h2 => hroom id h1 (by rw [hnext]; exact h2)) (hwhole _ hf) _ Q ?_
   intro val w2 S2 B2 hv hM2 hS2 hss hE
   rw [hnext] at hM'
   exact ih _ (by simpa using hsz) hcount hcl' hM' (hA.put o.dst hv hM2 hS2 hss hE)
end
end Go.Jv
