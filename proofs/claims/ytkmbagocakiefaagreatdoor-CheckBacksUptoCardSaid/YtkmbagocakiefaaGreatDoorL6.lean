/- What the abstract machine says of a call, of an operation. -/
import Derived.Test.YtkmbagocakiefaaGreatDoorL5
namespace Go.Jv
structure Lh (S : Nat → Prop) (w : World) (S1 : Nat → Prop) (w1 : World) : Prop where
 sub : ∀ b, S b → S1 b
 sIn : ∀ b, S1 b → S b ∨ w.heap.size ≤ b
 lt : ∀ b, S1 b → b < w1.heap.size
 keep : ∀ b, b < w.heap.size → w1.heap[b]? = w.heap[b]?
 size : w.heap.size ≤ w1.heap.size
 os : w1.os = w.os
 tape : w1.tape = w.tape
 output : w1.output = w.output
def noB : Nat → Option Pl := fun _ => none
def ED (P : Program) (f : FuncId) : Prop := ∃ F, P.funcs[f]? = some F ∧ F.body.isNone = false ∧ (F.name == "runtime.NumGoroutine") = false
def EE (R : Value → World → Prop) : Ending → World → Prop
 | .returned v, w => R v w
 | _, _ => False
def Ba (P : Program) (C : Cfg) (f : FuncId) (xs rs : List Dat) : Prop :=
 ED P f ∧ ∀ (S : Nat → Prop) (w : World) (args : Array Value), (∀ b, S b → b < w.heap.size) → (∀ g cs, C.glob g = some cs → VR S w (.ptr cs) (.pointer (some ⟨g, 0, none⟩))) →
  args.size = xs.length → (∀ (i : Nat) x u, xs[i]? = some x → args[i]? = some u → VR S w x u) →
  Calls P f args w (EE fun v w1 => ∃ S1, Lh S w S1 w1 ∧ AVR S1 w1 noB (dv (rs.map .d)) v)
def xg (P : Program) (f : FuncId) (xs rs : List Dat) : Prop :=
 ∀ (S : Nat → Prop) (w : World) (args : Array Value), args.size = xs.length → (∀ (i : Nat) x u, xs[i]? = some x → args[i]? = some u → VR S w x u) →
  (∃ G, P.funcs[f]? = some G) ∧ ∃ v, (callFunc f args).run P w = .ok (.value v) w ∧ AVR S w noB (dv (rs.map .d)) v
def xh (P : Program) (C : Cfg) (f : FuncId) (xs rs : List Dat) : Prop :=
 (C.ext f xs = none ∧ Ba P C f xs rs) ∨ (C.ext f xs = some rs ∧ xg P f xs rs)
def Bb (P : Program) (C : Cfg) (f : FuncId) (vs : List AV) (H : Hs) (nx : Nat) (r : List AV × Hs × Nat) : Prop :=
 ED P f ∧ nx ≤ r.2.2 ∧ (∀ id, id < nx → H id = .dead → r.2.1 id = .dead) ∧ ∀ (S0 : Nat → Prop) (L0 : Lz) (w0 : World) (S : Nat → Prop) (B : Nat → Option Pl) (w : World) (args : Array Value), Mem C S0 L0 w0 S B H (fun id => nx ≤ id) w →
  args.size = vs.length → (∀ (i : Nat) x u, vs[i]? = some x → args[i]? = some u → AVR S w B x u) →
  Calls P f args w (EE fun v w1 => ∃ S1 B1, AVR S1 w1 B1 (dv r.1) v ∧ Mem C S0 L0 w0 S1 B1 r.2.1 (fun id => r.2.2 ≤ id) w1 ∧ (∀ b, S b → S1 b) ∧ gn S w w1 ∧ Ext B B1)
def rz (P : Program) (C : Cfg) (e : Operand → AV) (o : Op) (H : Hs) (nx : Nat) (r : AV × Hs × Nat) (f : Ft) : Prop :=
 nx ≤ r.2.2 ∧ (∀ id, id < nx → H id = .dead → r.2.1 id = .dead) ∧ ((∀ id, ¬ f.md id) → r.2.2 = nx) ∧ ∀ (e' : Operand → AV) (H' : Hs), (∀ x ∈ o.operands, e' x = e x) → (∀ id, f.looks id ∨ f.mods id → H' id = H id) →
  ∃ H1', sZ f H H' r.2.1 H1' ∧
  ∀ {S0 : Nat → Prop} {L0 : Lz} {w0 : World} {S : Nat → Prop} {B : Nat → Option Pl} {F : Nat → Prop} {w : World} (a : Act) (oper : Oper), oper.op = o → Mem C S0 L0 w0 S B H' F w →
   (∀ x ∈ o.operands, AVR S w B (e' x) (a.eval x)) → (∀ id, nx ≤ id → id < r.2.2 → F id) → ((∀ id, f.md id) → ∀ id, F id ↔ nx ≤ id) →
   ∀ (K : Act → World → Prop) (Q : Exit → Act → World → Prop),
    (∀ val w1 S1 B1, AVR S1 w1 B1 r.1 val → Mem C S0 L0 w0 S1 B1 H1' (AF F nx r.2.2) w1 → (∀ b, S b → S1 b) → gn S w w1 → Ext B B1 → K (a.put oper.dst val) w1) →
    oper.wp P a w K Q
def CC : Ft := ⟨fun _ => True, fun _ => True⟩
section
variable {P : Program} {C : Cfg} {S0 : Nat → Prop} {L0 : Lz} {w0 : World} {S : Nat → Prop} {B : Nat → Option Pl} {H : Hs} {F : Nat → Prop} {nx : Nat} {w : World}
theorem Calls.mono' {f : FuncId} {args : Array Value} {R R' : Ending → World → Prop} (h : Calls P f args w R) (hr : ∀ e w, R e w → R' e w) : Calls P f args w R' :=
 fun cs => let ⟨e, w', fr, h1, h2⟩ := h cs; ⟨e, w', fr, hr _ _ h1, h2⟩
theorem Aq {e : Operand → AV} {o : Op} {x : AV} {H1 : Hs} {n1 : Nat} (h : act C H nx e o = some (x, H1, n1)) : nx ≤ n1 := by
 by_cases hq : bH o = true
 ·exact Nat.le_of_eq (ta hq h H).2.1.symm
 ·cases o with
  | makeSlice t l c => simp only [act] at h; obtain ⟨y, hy, h⟩ := Option.map_eq_some_iff.1 h; cases h; omega
  | makeMap t r =>
   simp only [act] at h
   split at h <;> cases h
   omega
  | lookup t m x ok => exact Nat.le_of_eq (ce h H).2.1.symm
  | mapUpdate t m x v =>
   simp only [act] at h
   obtain ⟨H2, h2, he⟩ := Option.map_eq_some_iff.1 h
   cases he
   omega
  | alloc t => simp only [act] at h; obtain ⟨y, hy, h⟩ := Option.bind_eq_some_iff.1 h; cases h; omega
  | box t a =>
   simp only [act] at h
   obtain ⟨y, hy, h⟩ := Option.bind_eq_some_iff.1 h
   split at h <;> cases h
   omega
  | buildSlice t len ps =>
   simp only [act] at h
   split at h <;> try cases h
   split at h <;> try cases h
   split at h <;> try cases h
   split at h <;> cases h
   omega
  | load t p => exact Nat.le_of_eq (ce h H).2.1.symm
  | slice t p lo hi mx => exact Nat.le_of_eq (ce h H).2.1.symm
  | indexAddr t p i => exact Nat.le_of_eq (ce h H).2.1.symm
  | store t p v =>
   simp only [act] at h
   obtain ⟨H2, h2, he⟩ := Option.map_eq_some_iff.1 h
   cases he
   omega
  | call c =>
   obtain ⟨callee, args, ats⟩ := c
   simp only [act] at h
   split at h
   ·simp [bH] at hq
   ·split at h
    ·rw [yo h]; omega
    ·cases h
   ·simp [bH] at hq
   ·simp [bH] at hq
   ·cases h
  | _ => first | (simp [bH] at hq; done) | simp [act] at h
theorem Ic {e : Operand → AV} {o : Op} {x : AV} {H1 : Hs} {n1 : Nat} (h : act C H nx e o = some (x, H1, n1)) (h0 : ∀ id, ¬ (bE C H nx n1 e o).md id) : n1 = nx := by
 by_cases hq : bH o = true
 ·exact (ta hq h H).2.1
 ·cases o with
  | load t p => exact (ce h H).2.1
  | slice t p lo hi mx => exact (ce h H).2.1
  | indexAddr t p i => exact (ce h H).2.1
  | store t p v =>
   simp only [act] at h
   obtain ⟨H2, h2, he⟩ := Option.map_eq_some_iff.1 h
   cases he
   rfl
  | buildSlice t n ps =>
   exfalso
   have := h0 nx
   simp only [bE] at this
   split at this <;> simp [Ft.of] at this
  | lookup t m x ok => exact (ce h H).2.1
  | mapUpdate t m x v =>
   simp only [act] at h
   obtain ⟨H2, h2, he⟩ := Option.map_eq_some_iff.1 h
   cases he
   rfl
  | call c =>
   obtain ⟨callee, args, ats⟩ := c
   simp only [act] at h
   split at h
   ·simp [bH] at hq
   ·exfalso
    have := h0 nx
    simp only [bE] at this
    split at this <;> simp [Ft.of] at this
   ·simp [bH] at hq
   ·simp [bH] at hq
   ·cases h
  | _ => first | (simp [bH] at hq; done) | (simp [act] at h; done) | exact absurd rfl (h0 nx) | (exfalso; have := h0 nx; simp [bE, Ft.of] at this)
theorem vm : ∀ (n : Nat) {H : Hs} {v : AV} {x : Dat} {H1 : Hs}, frz n H v = some (x, H1) → ∀ id, H id = .dead → H1 id = .dead
 | 0, _, _, _, _, h => by simp [frz] at h
 | n + 1, H, v, x, H1, h => by
  have list : ∀ (cs : List AV) {H : Hs} {xs : List Dat} {H1 : Hs}, cg (frz n) H cs = some (xs, H1) → ∀ id, H id = .dead → H1 id = .dead := by
   intro cs
   induction cs with
   | nil => intro H xs H1 h id hid; simp only [cg, Option.some.injEq, Prod.mk.injEq] at h; rw [← h.2]; exact hid
   | cons c cs ihl =>
    intro H xs H1 h id hid
    simp only [cg] at h
    split at h
    ·cases h
    ·rename_i x0 H2 h0
     split at h
     ·rename_i xs0 H3 h1
      cases h
      exact ihl h1 id (vm n h0 id hid)
     ·cases h
  intro id hid
  cases v with
  | d x0 => simp only [frz, Option.some.injEq, Prod.mk.injEq] at h; rw [← h.2]; exact hid
  | nil => simp only [frz, Option.some.injEq, Prod.mk.injEq] at h; rw [← h.2]; exact hid
  | sl j lo hi =>
   simp only [frz] at h
   split at h
   ·rename_i z xs hj
    split at h
    ·simp only [Option.some.injEq, Prod.mk.injEq] at h
     rw [← h.2]
     have : id ≠ j := fun e => by rw [e, hj] at hid; cases hid
     simp [upd, this, hid]
    ·cases h
   ·split at h
    ·simp only [Option.some.injEq, Prod.mk.injEq] at h; rw [← h.2]; exact hid
    ·cases h
   ·cases h
  | pt j off =>
   simp only [frz] at h
   split at h
   ·simp only [Option.some.injEq, Prod.mk.injEq] at h; rw [← h.2]; exact hid
   ·rename_i cs hj
    split at h
    ·rename_i xs H2 h2
     split at h
     ·simp only [Option.some.injEq, Prod.mk.injEq] at h
      rw [← h.2]
      have : id ≠ j := fun e => by rw [e, hj] at hid; cases hid
      simp [upd, this, list cs h2 id hid]
     ·cases h
    ·cases h
   ·cases h
  | agg cs =>
   simp only [frz] at h
   obtain ⟨⟨xs, H2⟩, h2, he⟩ := Option.map_eq_some_iff.1 h
   simp only [Prod.mk.injEq] at he
   rw [← he.2]; exact list cs h2 id hid
  | fn f cs =>
   simp only [frz] at h
   obtain ⟨⟨xs, H2⟩, h2, he⟩ := Option.map_eq_some_iff.1 h
   simp only [Prod.mk.injEq] at he
   rw [← he.2]; exact list cs h2 id hid
  | _ => simp [frz] at h
theorem sX (n : Nat) : ∀ (cs : List AV) {H : Hs} {xs : List Dat} {H1 : Hs}, cg (frz n) H cs = some (xs, H1) → ∀ id, H id = .dead → H1 id = .dead
 | [], H, xs, H1, h, id, hid => by simp only [cg, Option.some.injEq, Prod.mk.injEq] at h; rw [← h.2]; exact hid
 | c :: cs, H, xs, H1, h, id, hid => by
  simp only [cg] at h
  split at h
  ·cases h
  ·rename_i x0 H2 h0
   split at h
   ·rename_i xs0 H3 h1
    cases h
    exact sX n cs h1 id (vm n h0 id hid)
   ·cases h
theorem A4 {sz : Nat} : ∀ (as : List (Nat × AV)) {H : Hs} {xs ys : List Dat} {H1 : Hs}, dy sz H xs as = some (ys, H1) → ∀ id, H id = .dead → H1 id = .dead
 | [], H, xs, ys, H1, h, id, hid => by simp only [dy, Option.some.injEq, Prod.mk.injEq] at h; rw [← h.2]; exact hid
 | (i, v) :: as, H, xs, ys, H1, h, id, hid => by
  simp only [dy] at h
  split at h
  ·rename_i x H2 h2
   split at h
   ·exact A4 as h id (vm 4 h2 id hid)
   ·cases h
  ·cases h
theorem Ar {e : Operand → AV} {o : Op} {x : AV} {H1 : Hs} {n1 : Nat} (h : act C H nx e o = some (x, H1, n1)) : ∀ id, id < nx → H id = .dead → H1 id = .dead := by
 intro id hlt hid
 have hne : id ≠ nx := by omega
 by_cases hq : bH o = true
 ·rw [(ta hq h H).1]; exact hid
 ·cases o with
  | makeSlice t l c => simp only [act] at h; obtain ⟨y, hy, h⟩ := Option.map_eq_some_iff.1 h; cases h; simp [upd, hne, hid]
  | makeMap t r =>
   simp only [act] at h
   split at h <;> cases h
   simp [upd, hne, hid]
  | alloc t => simp only [act] at h; obtain ⟨y, hy, h⟩ := Option.bind_eq_some_iff.1 h; cases h; simp [upd, hne, hid]
  | box t a =>
   simp only [act] at h
   obtain ⟨y, hy, h⟩ := Option.bind_eq_some_iff.1 h
   split at h <;> cases h
   simp [upd, hne, hid]
  | buildSlice t len ps =>
   simp only [act] at h
   split at h <;> try cases h
   split at h <;> try cases h
   split at h <;> try cases h
   split at h
   ·rename_i hp
    cases h
    simp [upd, hne, A4 _ hp id hid]
   ·cases h
  | load t p => rw [(ce h H).1]; exact hid
  | slice t p lo hi mx => rw [(ce h H).1]; exact hid
  | indexAddr t p i => rw [(ce h H).1]; exact hid
  | lookup t m x ok => rw [(ce h H).1]; exact hid
  | mapUpdate t m x v =>
   simp only [act] at h
   obtain ⟨H2, h2, he⟩ := Option.map_eq_some_iff.1 h
   simp only [Prod.mk.injEq] at he
   obtain ⟨_, rfl, _⟩ := he
   unfold rB at h2
   split at h2
   ·rename_i j key k el d H3 hm hd hmt hfz
    have h3 := vm 4 hfz id hid
    split at h2
    ·rename_i es hj
     split at h2
     ·obtain ⟨es1, hput, rfl⟩ := Option.map_eq_some_iff.1 h2
      have : id ≠ j := fun e => by rw [e, hj] at h3; cases h3
      simp [upd, this, h3]
     ·cases h2
    ·cases h2
   ·cases h2
  | store t p v =>
   simp only [act] at h
   obtain ⟨H2, h2, he⟩ := Option.map_eq_some_iff.1 h
   simp only [Prod.mk.injEq] at he
   obtain ⟨_, rfl, _⟩ := he
   unfold ke at h2
   split at h2
   ·split at h2
    ·rename_i j off hpe
     split at h2
     ·rename_i cs hj
      have : id ≠ j := fun e => by rw [e, hj] at hid; cases hid
      split at h2 <;> cases h2
      simp [upd, this, hid]
     ·cases h2
    ·rename_i j i' j' hpe
     split at h2
     ·rename_i x0 z xs hx hj
      have : id ≠ j := fun e => by rw [e, hj] at hid; cases hid
      split at h2
      ·split at h2
       ·split at h2
        ·cases h2; simp [upd, this, hid]
        ·split at h2 <;> cases h2
         simp [upd, this, hid]
       ·cases h2
      ·cases h2
     ·cases h2
    ·cases h2
   ·cases h2
  | call c =>
   obtain ⟨callee, args, ats⟩ := c
   simp only [act] at h
   split at h
   ·simp [bH] at hq
   ·split at h
    ·unfold ky at h
     split at h <;> try cases h
     split at h <;> try cases h
     split at h <;> try cases h
     split at h
     ·rename_i xs H2 new hb hn
      split at h <;> cases h
      simp only [upd, hne, if_false]
      unfold pH at hb
      split at hb
      ·cases hb; exact hid
      ·rename_i j lo hi
       split at hb
       ·rename_i z xs2 hj
        split at hb <;> cases hb
        simp only [upd]
        split
        ·rfl
        ·exact hid
       ·cases hb
      ·cases hb
     ·cases h
    ·cases h
   ·simp [bH] at hq
   ·simp [bH] at hq
   ·cases h
  | _ => first | (simp [bH] at hq; done) | simp [act] at h
theorem AVR.restr {B' : Nat → Option Pl} {v : AV} {u : Value} (h : AVR S w B v u) : (∀ i, fT i v → B' i = B i) → AVR S w B' v u := by
 induction h with
 | d x v h => exact fun _ => .d x v h
 | nil => exact fun _ => .nil
 | slz id => exact fun _ => .slz id
 | undef => exact fun _ => .undef
 | sl id lo hi p hp h1 h2 h3 hm => exact fun hb => .sl id lo hi p ((hb id (.sl lo hi)).trans hp) h1 h2 h3 hm
 | sle id lo off c p hp h hm => exact fun hb => .sle id lo off c p ((hb id (.sl lo lo)).trans hp) h hm
 | pt id off p hp => exact fun hb => .pt id off p ((hb id (.pt off)).trans hp)
 | pe id i j p hp => exact fun hb => .pe id i j p ((hb id (.pe i j)).trans hp)
 | agg cs vs hl ho _ ih => exact fun hb => .agg cs vs hl ho fun j c u hj hu => ih j c u hj hu fun i hm => hb i (.agg cs c (List.mem_of_getElem? hj) hm)
 | tup cs vs hl _ ih => exact fun hb => .tup cs vs hl fun j c u hj hu => ih j c u hj hu fun i hm => hb i (.tup cs c (List.mem_of_getElem? hj) hm)
 | fn f cs vs hl _ ih => exact fun hb => .fn f cs vs hl fun j c u hj hu => ih j c u hj hu fun i hm => hb i (.fn f cs c (List.mem_of_getElem? hj) hm)
 | mp id p hp => exact fun hb => .mp id p ((hb id .mp).trans hp)
 | bad v => exact fun _ => .bad v
theorem HR.restr {B' : Nat → Option Pl} {id : Nat} {h : dq} (hr : HR S w B id h) (hid : B' id = B id) (hb : ∀ cs c i, h = .box cs → c ∈ cs → fT i c → B' i = B i) : HR S w B' id h := by
 cases hr with
 | own xs p arr e hp hbl hr => exact .own xs p arr e (hid.trans hp) hbl hr
 | ownz z hp => exact .ownz z (hid.trans hp)
 | immz z hp => exact .immz z (hid.trans hp)
 | box cs p arr e hp hbl hsz hv => exact .box cs p arr e (hid.trans hp) hbl hsz (fun j c hj => let ⟨u, h1, h2, h3⟩ := hv j c hj; ⟨u, h1, h2, h3.restr fun i hm => hb cs c i rfl (List.mem_of_getElem? hj) hm⟩)
 | imm xs p arr e fr hp hs hbl hr => exact .imm xs p arr e fr (hid.trans hp) hs hbl hr
 | immb cs p arr e fr hp hs hbl hsz hv => exact .immb cs p arr e fr (hid.trans hp) hs hbl hsz hv
 | map es p arr clock hp hbl hsz hv => exact .map es p arr clock (hid.trans hp) hbl hsz hv
 | dead => exact .dead
def yU (nx : Nat) (B : Nat → Option Pl) : Nat → Option Pl := fun i => if i < nx then B i else none
def lZ (R : Nat → Prop) (nx : Nat) (B : Nat → Option Pl) (H : Hs) : Lz :=
 ⟨fun b => ∃ id p, R id ∧ (H id).live = true ∧ B id = some p ∧ p.blk = b, fun i => if i < nx then some (B i) else none⟩
def io (nx n1 : Nat) (B B1 : Nat → Option Pl) : Nat → Option Pl := fun i => if nx ≤ i ∧ i < n1 then B1 i else B i
theorem rb {R : Nat → Prop} {id : Nat} (h : (restr R H id).live = true) : R id ∧ restr R H id = H id := by
 unfold restr at h ⊢
 split at h
 ·rename_i hr; simp [hr]
 ·cases h
theorem Mem.hand (hM : Mem C S0 L0 w0 S B H F w) {R : Nat → Prop} (hR : ∀ i, R i → i < nx) (hc : iF R H) : Mem C S (lZ R nx B H) w S (yU nx B) (restr R H) (fun id => nx ≤ id) w := by
 have hbl : ∀ i, i < nx → yU nx B i = B i := fun i hi => by simp [yU, hi]
 refine ⟨fun id => ?_, fun id hid => ?_, fun id hid => ?_, fun i j p q hi hj hp hq hne => ?_, fun i p hi hp => ?_, hM.lt, hM.glob, rfl, rfl, rfl, Nat.le_refl _, fun _ _ _ => rfl, fun _ h => h, fun i p hi hp => ?_, fun _ h => .inl h, fun id q hq => ?_, fun id hid => ?_⟩
 ·unfold Go.Jv.restr
  split
  ·rename_i hr
   exact (hM.homes id).restr (hbl id (hR id hr)) fun cs c i hcs hcm hm => hbl i (hR i (hc id cs c i hr hcs hcm hm))
  ·exact .dead
 ·unfold Go.Jv.restr
  split
  ·rename_i hr; have := hR id hr; omega
  ·rfl
 ·simp [yU, Nat.not_lt.2 hid]
 ·obtain ⟨h1, h2⟩ := rb hi
  obtain ⟨h3, h4⟩ := rb hj
  rw [hbl i (hR i h1)] at hp
  rw [hbl j (hR j h3)] at hq
  exact hM.inj i j p q (h2 ▸ hi) (h4 ▸ hj) hp hq hne
 ·obtain ⟨h1, h2⟩ := rb hi
  rw [hbl i (hR i h1)] at hp
  exact hM.off i p (h2 ▸ hi) hp
 ·obtain ⟨h1, h2⟩ := rb hi
  rw [hbl i (hR i h1)] at hp
  exact .inl ⟨i, p, h1, h2 ▸ hi, hp, rfl⟩
 ·simp only [lZ] at hq
  split at hq
  ·rename_i hlt; cases hq; exact hbl id hlt
  ·cases hq
 ·simp [lZ, Nat.not_lt.2 hid]
theorem jM {R : Nat → Prop} {n1 : Nat} {H1 : Hs} {i : Nat} (h : R i ∨ (nx ≤ i ∧ i < n1)) : iC R nx n1 H H1 i = H1 i := by simp [iC, h]
theorem kN {R : Nat → Prop} {n1 : Nat} {H1 : Hs} {i : Nat} (h : ¬ (R i ∨ (nx ≤ i ∧ i < n1))) : iC R nx n1 H H1 i = H i := by simp only [iC]; rw [if_neg h]
theorem Mem.back (hM : Mem C S0 L0 w0 S B H F w) {R : Nat → Prop} {n1 : Nat} {S1 : Nat → Prop} {B1 : Nat → Option Pl} {H1 : Hs} {w1 : World} (hR : ∀ i, R i → i < nx) (hF : ∀ id, nx ≤ id → id < n1 → F id)
  (hd : ∀ id, id < nx → restr R H id = .dead → H1 id = .dead)
  (hM1 : Mem C S (lZ R nx B H) w S1 B1 H1 (fun id => n1 ≤ id) w1) (hS : ∀ b, S b → S1 b) (hs : gn S w w1) :
  Mem C S0 L0 w0 S1 (io nx n1 B B1) (iC R nx n1 H H1) (AF F nx n1) w1 ∧ Ext B1 (io nx n1 B B1) ∧ Ext B (io nx n1 B B1) := by
 have hB1 : ∀ i, i < nx → B1 i = B i := fun i hi => hM1.b0 i (B i) (by simp [lZ, hi])
 have hE1 : Ext B1 (io nx n1 B B1) := by
  intro i p hp
  simp only [io]
  split
  ·exact hp
  ·rename_i hn
   by_cases h1 : i < nx
   ·rw [← hB1 i h1]; exact hp
   ·rw [hM1.freshB i (by omega)] at hp; cases hp
 have hE : Ext B (io nx n1 B B1) := by
  intro i p hp
  simp only [io]
  split
  ·rename_i hn
   rw [hM.freshB i (hF i hn.1 hn.2)] at hp; cases hp
  ·exact hp
 have hjin : ∀ i, R i ∨ (nx ≤ i ∧ i < n1) → io nx n1 B B1 i = B1 i := by
  intro i hi
  simp only [io]
  split
  ·rfl
  ·rename_i hn
   rcases hi with hi | hi
   ·exact (hB1 i (hR i hi)).symm
   ·exact absurd hi hn
 have hjout : ∀ i, ¬ (R i ∨ (nx ≤ i ∧ i < n1)) → io nx n1 B B1 i = B i := fun i hi => by
  simp only [io]
  rw [if_neg fun h => hi (.inr h)]
 have hon : ∀ i p, ¬ R i → (H i).live = true → B i = some p → ¬ (lZ R nx B H).on p.blk := by
  rintro i p hi hl hp ⟨j, q, hj, hlj, hq, he⟩
  exact hM.inj i j p q hl hlj hp hq (fun e => hi (e ▸ hj)) he.symm
 have cse : ∀ i, (iC R nx n1 H H1 i).live = true → ∀ p, io nx n1 B B1 i = some p → ((R i ∨ (nx ≤ i ∧ i < n1)) ∧ (H1 i).live = true ∧ B1 i = some p) ∨ (¬ (R i ∨ (nx ≤ i ∧ i < n1)) ∧ (H i).live = true ∧ B i = some p) := by
  intro i hl p hp
  by_cases hi : R i ∨ (nx ≤ i ∧ i < n1)
  ·rw [jM hi] at hl; rw [hjin i hi] at hp; exact .inl ⟨hi, hl, hp⟩
  ·rw [kN hi] at hl; rw [hjout i hi] at hp; exact .inr ⟨hi, hl, hp⟩
 refine ⟨⟨fun id => ?_, fun id hid => ?_, fun id hid => ?_, fun i j p q hi hj hp hq hne => ?_, fun i p hi hp hS1 => ?_, hM1.lt, hM1.glob, hM1.os.trans hM.os, hM1.tape.trans hM.tape, hM1.output.trans hM.output, Nat.le_trans hM.size hM1.size, fun b hb hl => ?_, fun b hb => hS b (hM.sub b hb), fun i p hi hp => ?_, fun b hb => ?_, fun id q hq => ?_, fun id hid => hM.b0F id hid.1⟩, hE1, hE⟩
 ·by_cases hi : R id ∨ (nx ≤ id ∧ id < n1)
  ·rw [jM hi]
   exact (hM1.homes id).mono (fun _ h => h) (fun _ _ => rfl) hE1 (fun _ hn => by rw [hjin id hi]; exact hn) (fun _ _ _ => rfl)
  ·rw [kN hi]
   refine (hM.homes id).mono hS hs hE (fun _ hn => by rw [hjout id hi]; exact hn) fun hl p hp => hM1.keep _ ((hM.homes id).lt hl p hp) (hon id p (fun h => hi (.inl h)) hl hp)
 ·by_cases hi : R id ∨ (nx ≤ id ∧ id < n1)
  ·rw [jM hi]
   have h1 : id < nx := by
    rcases hi with hi | hi
    ·exact hR id hi
    ·have := hid.2; omega
   refine hd id h1 ?_
   unfold Go.Jv.restr
   split
   ·exact hM.fresh id hid.1
   ·rfl
  ·rw [kN hi]; exact hM.fresh id hid.1
 ·have : ¬ (nx ≤ id ∧ id < n1) := by have := hid.2; omega
  simp only [io, if_neg this]
  exact hM.freshB id hid.1
 ·have mix : ∀ i j p q, R i ∨ (nx ≤ i ∧ i < n1) → (H1 i).live = true → B1 i = some p → ¬ (R j ∨ (nx ≤ j ∧ j < n1)) → (H j).live = true → B j = some q → p.blk ≠ q.blk := by
   intro i j p q hi hli hpi hj hlj hqj e
   rcases hM1.liveIn i p hli hpi with h1 | h1
   ·exact hon j q (fun h => hj (.inl h)) hlj hqj (e ▸ h1)
   ·have := (hM.homes j).lt hlj q hqj; omega
  rcases cse i hi p hp with ⟨a1, a2, a3⟩ | ⟨a1, a2, a3⟩ <;> rcases cse j hj q hq with ⟨b1, b2, b3⟩ | ⟨b1, b2, b3⟩
  ·exact hM1.inj i j p q a2 b2 a3 b3 hne
  ·exact mix i j p q a1 a2 a3 b1 b2 b3
  ·exact (mix j i q p b1 b2 b3 a1 a2 a3).symm
  ·exact hM.inj i j p q a2 b2 a3 b3 hne
 ·rcases cse i hi p hp with ⟨a1, a2, a3⟩ | ⟨a1, a2, a3⟩
  ·exact hM1.off i p a2 a3 hS1
  ·rcases hM1.sIn _ hS1 with h1 | h1 | h1
   ·exact hM.off i p a2 a3 h1
   ·exact hon i p (fun h => a1 (.inl h)) a2 a3 h1
   ·have := (hM.homes i).lt a2 p a3; omega
 ·rw [hM1.keep b (Nat.lt_of_lt_of_le hb hM.size) ?_]
  ·exact hM.keep b hb hl
  ·rintro ⟨j, q, hj, hlj, hq, rfl⟩
   rcases hM.liveIn j q hlj hq with h1 | h1
   ·exact hl h1
   ·omega
 ·have up : (lZ R nx B H).on p.blk ∨ w.heap.size ≤ p.blk → L0 p.blk ∨ w0.heap.size ≤ p.blk := by
   rintro (⟨j, q, hj, hlj, hq, he⟩ | h1)
   ·rw [← he]; exact hM.liveIn j q hlj hq
   ·exact .inr (Nat.le_trans hM.size h1)
  rcases cse i hi p hp with ⟨a1, a2, a3⟩ | ⟨a1, a2, a3⟩
  ·exact up (hM1.liveIn i p a2 a3)
  ·exact hM.liveIn i p a2 a3
 ·rcases hM1.sIn b hb with h1 | ⟨j, q, hj, hlj, hq, rfl⟩ | h1
  ·exact hM.sIn b h1
  ·exact .inr (hM.liveIn j q hlj hq)
  ·exact .inr (.inr (Nat.le_trans hM.size h1))
 ·have h1 := hM.b0 id q hq
  have h2 : ¬ (nx ≤ id ∧ id < n1) := fun h => by rw [hM.b0F id (hF id h.1 h.2)] at hq; cases hq
  simp only [io, if_neg h2]; exact h1
theorem Mem.called (hM : Mem C S0 L0 w0 S B H F w) {S1 : Nat → Prop} {w1 : World} (sub : ∀ b, S b → S1 b) (sIn : ∀ b, S1 b → S b ∨ w.heap.size ≤ b) (lt : ∀ b, S1 b → b < w1.heap.size)
  (keep : ∀ b, b < w.heap.size → w1.heap[b]? = w.heap[b]?) (size : w.heap.size ≤ w1.heap.size) (os : w1.os = w.os) (tape : w1.tape = w.tape) (output : w1.output = w.output) : Mem C S0 L0 w0 S1 B H F w1 := by
 have hs : gn S w w1 := fun b hb => keep b (hM.lt b hb)
 refine ⟨fun id => (hM.homes id).mono sub hs (Ext.refl _) (fun _ hn => hn) (fun hl p hp => keep _ ((hM.homes id).lt hl p hp)), hM.fresh, hM.freshB, hM.inj, ?_, lt,
  fun g cs hg => (hM.glob g cs hg).mono sub hs, os.trans hM.os, tape.trans hM.tape, output.trans hM.output, Nat.le_trans hM.size size, ?_, fun b hb => sub b (hM.sub b hb), hM.liveIn, ?_, hM.b0, hM.b0F⟩
 ·intro id p hl hp h1
  rcases sIn _ h1 with h2 | h2
  ·exact hM.off id p hl hp h2
  ·have := (hM.homes id).lt hl p hp; omega
 ·intro b hb hl
  rw [keep b (by have := hM.size; omega)]
  exact hM.keep b hb hl
 ·intro b hb
  rcases sIn b hb with h2 | h2
  ·exact hM.sIn b h2
  ·exact .inr (.inr (by have := hM.size; omega))
theorem Bc {v : AV} {u : Value} {f : FuncId} {caps : List AV} (hv : AVR S w B v u) (h : gP v = some (f, caps)) :
  ∃ us : Array Value, u = .func (.func f) #[] us ∧ us.size = caps.length ∧ ∀ (i : Nat) x u, caps[i]? = some x → us[i]? = some u → AVR S w B x u := by
 cases v with
 | d x =>
  cases x with
  | fn g cs =>
   simp only [gP, Option.some.injEq, Prod.mk.injEq] at h
   obtain ⟨rfl, rfl⟩ := h
   have hv' := hv.dV
   cases hv' with
   | fn _ _ vs hl hv2 =>
    refine ⟨vs, rfl, by simp [hl], fun i x u hx hu => ?_⟩
    rw [List.getElem?_map] at hx
    obtain ⟨y, hy, rfl⟩ := Option.map_eq_some_iff.1 hx
    exact .d _ _ (hv2 i y u hy hu)
  | _ => simp [gP] at h
 | fn g cs =>
  simp only [gP, Option.some.injEq, Prod.mk.injEq] at h
  obtain ⟨rfl, rfl⟩ := h
  cases hv with
  | fn _ _ vs hl hv => exact ⟨vs, rfl, hl.symm, hv⟩
 | _ => simp [gP] at h
theorem vn (n : Nat) : ∀ {vs : List AV} {us : List Value} {H : Hs} {S : Nat → Prop} {xs : List Dat} {H1 : Hs}, Mem C S0 L0 w0 S B H F w → us.length = vs.length →
  (∀ (i : Nat) x u, vs[i]? = some x → us[i]? = some u → AVR S w B x u) → cg (frz n) H vs = some (xs, H1) →
  ∃ S1, Mem C S0 L0 w0 S1 B H1 F w ∧ (∀ b, S b → S1 b) ∧ us.length = xs.length ∧ ∀ (i : Nat) x u, xs[i]? = some x → us[i]? = some u → VR S1 w x u
 | [], us, H, S, xs, H1, hM, hl, hv, h => by
  simp only [cg, Option.some.injEq, Prod.mk.injEq] at h
  obtain ⟨rfl, rfl⟩ := h
  exact ⟨S, hM, fun _ h => h, by simpa using hl, fun i x u hx => by simp at hx⟩
 | v :: vs, us, H, S, xs, H1, hM, hl, hv, h => by
  match us, hl with
  | u :: us, hl =>
   simp only [cg] at h
   split at h
   ·cases h
   ·rename_i x H2 h2
    split at h
    ·rename_i xs' H3 h3
     cases h
     obtain ⟨S1, hM1, hS1, hx, _⟩ := tc n hM (hv 0 v u rfl rfl) h2
     obtain ⟨S2, hM2, hS2, hl2, hx2⟩ := vn n (us := us) hM1 (by simpa using hl) (fun i x u hx hu => (hv (i + 1) x u hx hu).mono hS1 (fun _ _ => rfl) (Ext.refl _)) h3
     refine ⟨S2, hM2, fun b hb => hS2 b (hS1 b hb), by simp [hl2], fun i x' u' hx' hu' => ?_⟩
     match i with
     | 0 => simp at hx' hu'; subst hx' hu'; exact hx.mono hS2 (fun _ _ => rfl)
     | i + 1 => exact hx2 i x' u' (by simpa using hx') (by simpa using hu')
    ·cases h
theorem Bd {n : Nat} : ∀ {vs : List AV} {H : Hs} {xs : List Dat} {H1 : Hs}, (∀ v ∈ vs, (dN v).isSome = true) → cg (frz n) H vs = some (xs, H1) → ∀ H', H1 = H ∧ cg (frz n) H' vs = some (xs, H')
 | [], H, xs, H1, _, h, H' => by
  simp only [cg, Option.some.injEq, Prod.mk.injEq] at h ⊢
  exact ⟨h.2.symm, by simp [h.1]⟩
 | v :: vs, H, xs, H1, hp, h, H' => by
  simp only [cg] at h ⊢
  split at h
  ·cases h
  ·rename_i x H2 h2
   obtain ⟨h3, h4⟩ := xz (hp v (by simp)) h2 H'
   subst h3
   rw [h4]
   simp only
   split at h
   ·rename_i xs' H3 h5
    simp only [Option.some.injEq, Prod.mk.injEq] at h
    obtain ⟨rfl, rfl⟩ := h
    obtain ⟨h6, h7⟩ := Bd (fun v hv => hp v (by simp [hv])) h5 H'
    rw [h7]
    exact ⟨h6, rfl⟩
   ·cases h
theorem Be {T : Nat → Prop} {x : Dat} {v : Value} (hp : kU x = true) (h : VR T w x v) (S' : Nat → Prop) (w' : World) : VR S' w' x v := by
 cases h with
 | int k n => exact .int k n
 | bool b => exact .bool b
 | str s => exact .str s
 | agg cs vs hl ho hv =>
  refine .agg cs vs hl ho fun j c u hj hu => ?_
  simp only [kU, List.all_eq_true] at hp
  have hc := hp c (List.mem_of_getElem? hj)
  have := hv j c u hj hu
  cases this with
  | int k n => exact .int k n
  | bool b => exact .bool b
  | str s => exact .str s
  | _ => simp at hc
 | _ => simp [kU] at hp
theorem xi {T : Nat → Prop} {B1 : Nat → Option Pl} {ds : List Dat} {v : Value} (hp : ds.all kU = true) (h : AVR T w B1 (dv (ds.map .d)) v) (S' : Nat → Prop) (w' : World) (B' : Nat → Option Pl) :
  AVR S' w' B' (dv (ds.map .d)) v := by
 have hall := List.all_eq_true.1 hp
 match ds, hall, h with
 | [d], hall, h => exact .d _ _ (Be (hall d (by simp)) h.dV S' w')
 | [], _, h =>
  simp only [List.map_nil, dv] at h ⊢
  cases h with
  | tup _ vs hl hv => exact .tup _ vs hl fun j c u hj => by simp at hj
 | d :: d' :: ds, hall, h =>
  simp only [List.map_cons, dv] at h ⊢
  cases h with
  | tup _ vs hl hv =>
   refine .tup _ vs hl fun j c u hj hu => ?_
   have hj' : ((d :: d' :: ds).map AV.d)[j]? = some c := by simpa using hj
   rw [List.getElem?_map] at hj'
   obtain ⟨y, hy, rfl⟩ := Option.map_eq_some_iff.1 hj'
   exact .d _ _ (Be (hall y (List.mem_of_getElem? hy)) (hv j _ u hj hu).dV S' w')
theorem Gz {e : Operand → AV} {ρ : Operand → Value} {args : Array Operand} {caps : List AV} {us : Array Value} (ha : ∀ x ∈ args, AVR S w B (e x) (ρ x)) (hs : us.size = caps.length)
  (hc : ∀ (i : Nat) x u, caps[i]? = some x → us[i]? = some u → AVR S w B x u) :
  (args.map ρ ++ us).size = (args.toList.map e ++ caps).length ∧ ∀ (i : Nat) x u, (args.toList.map e ++ caps)[i]? = some x → (args.map ρ ++ us)[i]? = some u → AVR S w B x u := by
 refine ⟨by simp [hs], fun i x u hx hu => ?_⟩
 by_cases hi : i < args.size
 ·rw [List.getElem?_append_left (by simpa using hi), List.getElem?_map] at hx
  rw [Array.getElem?_append_left (by simpa using hi), Array.getElem?_map] at hu
  obtain ⟨q, hq, rfl⟩ := Option.map_eq_some_iff.1 hx
  have hq' : args[i]? = some q := by simpa using hq
  rw [hq'] at hu
  cases hu
  exact ha q (Array.mem_of_getElem? hq')
 ·rw [List.getElem?_append_right (by simpa using hi)] at hx
  rw [Array.getElem?_append_right (by simpa using hi)] at hu
  simp only [List.length_map, Array.length_toList] at hx
  simp only [Array.size_map] at hu
  exact hc _ x u hx hu
theorem vo {f : FuncId} (hE : ED P f) {ρ : Operand → Value} {fv : Operand} {us : Array Value} (hf : ρ fv = .func (.func f) #[] us) {o : Oper} {args : Array Operand} {ats : Array TypeId}
  (ho : o.op = .call ⟨.value fv, args, ats⟩) : (execOp ρ o).run P w = .ok (.enter f (args.map ρ ++ us)) w := by
 obtain ⟨G, h1, h2, h3⟩ := hE
 have h4 : ¬ G.name = "runtime.NumGoroutine" := by simpa using h3
 have h5 : ¬ G.body = none := by intro e; rw [e] at h2; cases h2
 unfold execOp
 simp [ho, resolve, Deferred.ofValue, hf, invoke, callFunc, h1, h4, h5]
theorem Bf {f : FuncId} {ρ : Operand → Value} {fv : Operand} {us : Array Value} (hf : ρ fv = .func (.func f) #[] us) {o : Oper} {args : Array Operand} {ats : Array TypeId}
  (ho : o.op = .call ⟨.value fv, args, ats⟩) {v : Value} (hr : (callFunc f (args.map ρ ++ us)).run P w = .ok (.value v) w) : (execOp ρ o).run P w = .ok (.value v) w := by
 unfold execOp
 simp [ho, resolve, Deferred.ofValue, hf, invoke, hr]
theorem pF {C : Cfg} {H : Hs} {nx n1 : Nat} {H1 : Hs} {e : Operand → AV} {o : Op} (hq : bH o = true) : jp C H nx n1 H1 e o = az := by
 rw [rD, G5 hq]
 cases o with
 | call c =>
  obtain ⟨callee, args, ats⟩ := c
  cases callee with
  | value fv => simp [bH] at hq
  | _ => rfl
 | _ => rfl
theorem vp (V : ca P C) {callD' : FuncId → List Dat → Option (List Dat)} {callR' : FuncId → List AV → Hs → Nat → Option (List AV × Hs × Nat)}
  (hD : ∀ f xs rs, callD' f xs = some rs → xh P C f xs rs) (hR : ∀ f vs H nx r, callR' f vs H nx = some r → Bb P C f vs H nx r) {e : Operand → AV} {o : Op} {r : AV × Hs × Nat}
  (h : (match o with
   | .call { callee := .value fv, args, .. } =>
    match gP (e fv) with
    | none => none
    | some (f, caps) =>
     match C.sig f with
     | .raw => do
      ml (∀ i, aX H (args.toList.map e ++ caps) i → i < nx)
      let (vs, H1, n1) ← callR' f (args.toList.map e ++ caps) (restr (aX H (args.toList.map e ++ caps)) H) nx
      some (dv vs, iC (aX H (args.toList.map e ++ caps)) nx n1 H H1, n1)
     | .dat =>
      match gU H (args.toList.map e ++ caps) with
      | none => none
      | some (xs, H1) => do
       let ds ← callD' f xs
       some (dv (ds.map .d), H1, nx)
     | .scal =>
      match ck (see 4 H) (args.toList.map e ++ caps) with
      | none => none
      | some xs => do
       let ds ← callD' f xs
       if ds.all kU then some (dv (ds.map .d), H, nx) else none
   | o => act C H nx e o) = some r) : rz P C e o H nx r (jp C H nx r.2.2 r.2.1 e o) := by
 split at h
 ·rename_i fv args ats
  cases hfn : gP (e fv) with
  | none => simp [hfn] at h
  | some fc =>
   obtain ⟨f, caps⟩ := fc
   simp only [hfn] at h
   have fnR : ∀ {S : Nat → Prop} {B : Nat → Option Pl} {w : World} {e' : Operand → AV} {a : Act}, (∀ x ∈ (Op.call ⟨.value fv, args, ats⟩).operands, e' x = e x) → (∀ x ∈ (Op.call ⟨.value fv, args, ats⟩).operands, AVR S w B (e' x) (a.eval x)) →
     ∃ us : Array Value, a.eval fv = .func (.func f) #[] us ∧ (args.map a.eval ++ us).size = (args.toList.map e ++ caps).length ∧ ∀ (i : Nat) x u, (args.toList.map e ++ caps)[i]? = some x → (args.map a.eval ++ us)[i]? = some u → AVR S w B x u := by
    intro S B w e' a he hρ
    have h1 := hρ fv (by simp [Op.operands, Call.operands])
    rw [he fv (by simp [Op.operands, Call.operands])] at h1
    obtain ⟨us, h2, h3, h4⟩ := Bc h1 hfn
    obtain ⟨h5, h6⟩ := Gz (e := e) (ρ := a.eval) (args := args) (fun x hx => by
     have := hρ x (by simp [Op.operands, Call.operands, hx])
     rwa [he x (by simp [Op.operands, Call.operands, hx])] at this) h3 h4
    exact ⟨us, h2, h5, h6⟩
   cases hsig : C.sig f with
   | raw =>
    simp only [hsig] at h
    obtain ⟨_, hg, h⟩ := Option.bind_eq_some_iff.1 h
    have hlt := AL hg
    obtain ⟨⟨vs, H1, n1⟩, h1, h2⟩ := Option.bind_eq_some_iff.1 h
    simp only [Option.some.injEq] at h2
    subst h2
    obtain ⟨hE, hn, hdd, hS⟩ := hR _ _ _ _ _ h1
    simp only at hn hdd
    have hft : jp C H nx n1 (iC (aX H (args.toList.map e ++ caps)) nx n1 H H1) e (.call ⟨.value fv, args, ats⟩) = ⟨aX H (args.toList.map e ++ caps), fun i => (aX H (args.toList.map e ++ caps) i ∧ iC (aX H (args.toList.map e ++ caps)) nx n1 H H1 i ≠ H i) ∨ (nx ≤ i ∧ i < n1)⟩ := by simp only [jp, jv, hfn, hsig]
    refine ⟨hn, fun id h3 h4 => ?_, ?_, fun e' H' he hH => ?_⟩
    ·show iC (aX H (args.toList.map e ++ caps)) nx n1 H H1 id = .dead
     by_cases hi : aX H (args.toList.map e ++ caps) id ∨ (nx ≤ id ∧ id < n1)
     ·rw [jM hi]
      refine hdd id h3 ?_
      unfold restr; split
      ·exact h4
      ·rfl
     ·rw [kN hi]; exact h4
    ·refine fun h3 => Classical.byContradiction fun hne => ?_
     refine h3 nx ?_
     rw [hft]
     exact .inr ⟨Nat.le_refl _, by simp only at hne; omega⟩
    simp only [hft] at hH ⊢
    have hrr : aX H' (args.toList.map e ++ caps) = aX H (args.toList.map e ++ caps) := aX.congr fun i hi => hH i (.inl hi)
    have hrs : restr (aX H (args.toList.map e ++ caps)) H' = restr (aX H (args.toList.map e ++ caps)) H := by
     funext i
     unfold restr; split
     ·rename_i hi; exact hH i (.inl hi)
     ·rfl
    refine ⟨iC (aX H (args.toList.map e ++ caps)) nx n1 H' H1, ⟨fun id hm => ?_, fun id hm => ?_⟩, ?_⟩
    ·have hm' : aX H (args.toList.map e ++ caps) id ∨ (nx ≤ id ∧ id < n1) := hm.imp_left And.left
     rw [jM hm', jM hm']
    ·by_cases hm' : aX H (args.toList.map e ++ caps) id ∨ (nx ≤ id ∧ id < n1)
     ·have hl : aX H (args.toList.map e ++ caps) id := hm'.resolve_right fun h => hm (.inr h)
      have h1 : iC (aX H (args.toList.map e ++ caps)) nx n1 H H1 id = H id := Classical.byContradiction fun h => hm (.inl ⟨hl, h⟩)
      refine ⟨?_, h1⟩
      rw [jM hm'] at h1 ⊢
      rw [h1, hH id (.inl hl)]
     ·rw [kN hm', kN hm']; exact ⟨rfl, rfl⟩
    intro S0 L0 w0 S B F w a oper hop hM hρ hF _ K Q hK
    obtain ⟨us, h3, h4, h5⟩ := fnR he hρ
    unfold Oper.wp
    rw [vo hE h3 hop, Oper.upon_enter]
    have hcl : iF (aX H (args.toList.map e ++ caps)) H' := by rw [← hrr]; exact aX.closed _ _
    have hMh := hM.hand (nx := nx) hlt hcl
    rw [hrs] at hMh
    refine Calls.mono' (hS _ _ _ S (yU nx B) w _ hMh h4 fun i x u hx hu => (h5 i x u hx hu).restr fun j hm => ?_) ?_
    ·have : j < nx := hlt j (.arg x (List.mem_of_getElem? hx) hm)
     simp [yU, this]
    intro e1 w1 hr
    cases e1 with
    | returned v =>
     obtain ⟨S1, B1, h6, h7, h8, h9, _⟩ := hr
     obtain ⟨m1, m2, m3⟩ := hM.back (R := aX H (args.toList.map e ++ caps)) hlt hF (by rw [hrs]; exact hdd) h7 h8 h9
     exact hK v w1 S1 _ (h6.mono (fun _ h => h) (fun _ _ => rfl) m2) m1 h8 h9 m3
    | _ => exact hr.elim
   | dat =>
    rw [rD (by simp only [jv, hfn, hsig])]
    simp only [hsig] at h
    cases hfz : gU H (args.toList.map e ++ caps) with
    | none => simp [hfz] at h
    | some q =>
     obtain ⟨xs, H1⟩ := q
     simp only [hfz] at h
     obtain ⟨ds, h1, h2⟩ := Option.bind_eq_some_iff.1 h
     simp only [Option.some.injEq] at h2
     subst h2
     have hDS := hD _ _ _ h1
     refine ⟨Nat.le_refl _, fun id _ hid => sX 4 _ hfz id hid, fun _ => rfl, fun e' H' he hH => ?_⟩
     have key : ∃ H1', sZ (bE C H nx nx e (.call ⟨.value fv, args, ats⟩)) H H' H1 H1' ∧ gU H' (args.toList.map e ++ caps) = some (xs, H1') := by
      by_cases hp : ((args.toList.map e ++ caps).all fun x => (dN x).isSome) = true
      ·have hft : bE C H nx nx e (.call ⟨.value fv, args, ats⟩) = az := by simp only [bE, hfn, hsig, hp, if_true]
       obtain ⟨h3, h4⟩ := Bd (fun v hv => List.all_eq_true.1 hp v hv) hfz H'
       subst h3
       exact ⟨H', by rw [hft]; exact .quiet fun id hm => by simp [Ft.mods, az, Ft.of] at hm, h4⟩
      ·have hft : bE C H nx nx e (.call ⟨.value fv, args, ats⟩) = ⟨aX H (args.toList.map e ++ caps), aX H (args.toList.map e ++ caps)⟩ := by simp only [bE, hfn, hsig]; rw [if_neg hp]
       simp only [hft] at hH ⊢
       obtain ⟨H1', h3, i3⟩ := EQ 4 _ (aX.closed H _) (fun i hi => hH i (.inl hi)) (fun c hc i hm => .arg c hc hm) hfz
       exact ⟨H1', i3.local rfl, h3⟩
     obtain ⟨H1', hL, hfz'⟩ := key
     refine ⟨H1', hL, ?_⟩
     intro S0 L0 w0 S B F w a oper hop hM hρ hF _ K Q hK
     obtain ⟨us, h3, h4, h5⟩ := fnR he hρ
     obtain ⟨S1, hM1, hS1, hl, hx⟩ := vn 4 (us := (args.map a.eval ++ us).toList) hM (by rw [Array.length_toList]; exact h4) (fun i x u hx hu => h5 i x u hx (by rwa [Array.getElem?_toList] at hu)) hfz'
     rcases hDS with ⟨_, hE, hS⟩ | ⟨_, hN⟩
     ·unfold Oper.wp
      rw [vo hE h3 hop, Oper.upon_enter]
      refine Calls.mono' (hS S1 w _ hM1.lt hM1.glob (by rw [← Array.length_toList]; exact hl) (fun i x u hx' hu => hx i x u hx' (by rwa [Array.getElem?_toList]))) ?_
      intro e1 w1 hr
      cases e1 with
      | returned v =>
       obtain ⟨S2, hg, hv⟩ := hr
       exact hK v w1 S2 B (hv.mono (fun _ h => h) (fun _ _ => rfl) (fun id p hp => by cases hp)) ((hM1.called hg.sub hg.sIn hg.lt hg.keep hg.size hg.os hg.tape hg.output).weak fun id hi => hi.1)
        (fun b hb => hg.sub b (hS1 b hb)) (fun b hb => hg.keep b (hM.lt b hb)) (Ext.refl _)
      | _ => exact hr.elim
     ·obtain ⟨_, v, hrun, hv⟩ := hN S1 w _ (by rw [← Array.length_toList]; exact hl) (fun i x u hx' hu => hx i x u hx' (by rwa [Array.getElem?_toList]))
      unfold Oper.wp
      rw [Bf h3 hop hrun, Oper.upon_value]
      exact hK v w S1 B (hv.mono (fun _ h => h) (fun _ _ => rfl) (fun id p hp => by cases hp)) (hM1.weak fun id hi => hi.1) hS1 (fun _ _ => rfl) (Ext.refl _)
   | scal =>
    rw [rD (by simp only [jv, hfn, hsig])]
    simp only [hsig] at h
    cases hse : ck (see 4 H) (args.toList.map e ++ caps) with
    | none => simp [hse] at h
    | some xs =>
     simp only [hse] at h
     obtain ⟨ds, h1, h2⟩ := Option.bind_eq_some_iff.1 h
     split at h2
     ·rename_i hpl
      simp only [Option.some.injEq] at h2
      subst h2
      have hDS := hD _ _ _ h1
      have hft : bE C H nx nx e (.call ⟨.value fv, args, ats⟩) = ⟨aX H (args.toList.map e ++ caps), az.md⟩ := by simp only [bE, hfn, hsig]
      refine ⟨Nat.le_refl _, fun id _ hid => hid, fun _ => rfl, fun e' H' he hH => ?_⟩
      simp only [hft] at hH ⊢
      have hse : ck (see 4 H') (args.toList.map e ++ caps) = some xs := by rw [← hse]; exact Bv (aX.closed H _) (fun i hi => hH i (.inl hi)) 4 _ fun c hc i hm => .arg c hc hm
      refine ⟨H', .quiet fun id hm => (by simp [Ft.mods, az, Ft.of] at hm), ?_⟩
      intro S0 L0 w0 S B F w a oper hop hM hρ hF _ K Q hK
      obtain ⟨us, h3, h4, h5⟩ := fnR he hρ
      obtain ⟨hl, hsee⟩ := nM hse
      rcases hDS with ⟨_, hE, hS⟩ | ⟨_, hN⟩
      ·unfold Oper.wp
       rw [vo hE h3 hop, Oper.upon_enter]
       refine Calls.mono' (hS (fun b => S b ∨ Lv B H' b) w _ ?_ (fun g cs hg => (hM.glob g cs hg).mono (fun _ h => .inl h) (fun _ _ => rfl)) (by rw [h4, hl]) ?_) ?_
       ·intro b hb
        rcases hb with hb | ⟨id, p, hlv, hp, rfl⟩
        ·exact hM.lt b hb
        ·exact (hM.homes id).lt hlv p hp
       ·intro i x u hx hu
        have hi : i < (args.toList.map e ++ caps).length := by rw [hl]; exact (List.getElem?_eq_some_iff.1 hx).1
        obtain ⟨x', hx', hs⟩ := hsee i _ (List.getElem?_eq_getElem hi)
        rw [hx] at hx'
        cases hx'
        exact xI hM 4 (h5 i _ u (List.getElem?_eq_getElem hi) hu) hs
       ·intro e1 w1 hr
        cases e1 with
        | returned v =>
         obtain ⟨S2, hg, hv⟩ := hr
         exact hK v w1 S B (xi hpl hv S w1 B) ((hM.called (fun _ h => h) (fun _ h => .inl h) (fun b hb => Nat.lt_of_lt_of_le (hM.lt b hb) hg.size) hg.keep hg.size hg.os hg.tape hg.output).weak fun id hi => hi.1)
          (fun _ h => h) (fun b hb => hg.keep b (hM.lt b hb)) (Ext.refl _)
        | _ => exact hr.elim
      ·obtain ⟨_, v, hrun, hv⟩ := hN (fun b => S b ∨ Lv B H' b) w _ (by rw [h4, hl]) (fun i x u hx hu => by
        have hi : i < (args.toList.map e ++ caps).length := by rw [hl]; exact (List.getElem?_eq_some_iff.1 hx).1
        obtain ⟨x', hx', hs⟩ := hsee i _ (List.getElem?_eq_getElem hi)
        rw [hx] at hx'
        cases hx'
        exact xI hM 4 (h5 i _ u (List.getElem?_eq_getElem hi) hu) hs)
       unfold Oper.wp
       rw [Bf h3 hop hrun, Oper.upon_value]
       exact hK v w S B (xi hpl hv S w B) (hM.weak fun id hi => hi.1) (fun _ h => h) (fun _ _ => rfl) (Ext.refl _)
     ·cases h2
 ·rename_i hno
  have hra : jv C e o = none := by
   cases o with
   | call c =>
    obtain ⟨callee, args, ats⟩ := c
    cases callee with
    | value fv => exact absurd rfl (hno fv args ats)
    | _ => rfl
   | _ => rfl
  rw [rD hra]
  obtain ⟨x, H1, n1⟩ := r
  refine ⟨Aq h, Ar h, Ic h, fun e' H' he hH => ?_⟩
  obtain ⟨H1', h1, hL⟩ := Ik h H' hH
  refine ⟨H1', hL, ?_⟩
  intro S0 L0 w0 S B F w a oper hop hM hρ hF _ K Q hK
  rw [← Ij he] at h1
  subst hop
  obtain ⟨val, w1, S1, B1, hr, hv, hM1, h2, h3, h4⟩ := J8 V hM hρ h1 hF
  unfold Oper.wp
  rcases hr with hr | ⟨hr, rfl⟩
  ·rw [hr, Oper.upon_value]; exact hK val w1 S1 B1 hv hM1 h2 h3 h4
  ·rw [hr, Oper.upon_skip]; exact hK _ w1 S1 B1 hv hM1 h2 h3 h4
theorem Jg (V : ca P C) {callD' : FuncId → List Dat → Option (List Dat)} {callR' : FuncId → List AV → Hs → Nat → Option (List AV × Hs × Nat)}
  (hD : ∀ f xs rs, callD' f xs = some rs → xh P C f xs rs) (hR : ∀ f vs H nx r, callR' f vs H nx = some r → Bb P C f vs H nx r) {e : Operand → AV} {o : Op} {r : AV × Hs × Nat}
  (h : (match o with
   | .call { callee := .value fv, args, .. } =>
    match gP (e fv) with
    | none => none
    | some (f, caps) =>
     match C.sig f with
     | .raw => do
      let (vs, H1, n1) ← callR' f (args.toList.map e ++ caps) H nx
      some (dv vs, H1, n1)
     | .dat =>
      match gU H (args.toList.map e ++ caps) with
      | none => none
      | some (xs, H1) => do
       let ds ← callD' f xs
       some (dv (ds.map .d), H1, nx)
     | .scal =>
      match ck (see 4 H) (args.toList.map e ++ caps) with
      | none => none
      | some xs => do
       let ds ← callD' f xs
       if ds.all kU then some (dv (ds.map .d), H, nx) else none
   | o => act C H nx e o) = some r) : ∃ f, rz P C e o H nx r f ∧ (bH o = true → f = az) := by
 split at h
 ·rename_i fv args ats
  cases hfn : gP (e fv) with
  | none => simp [hfn] at h
  | some fc =>
   obtain ⟨f, caps⟩ := fc
   simp only [hfn] at h
   cases hsig : C.sig f with
   | raw =>
    simp only [hsig] at h
    obtain ⟨⟨vs, H1, n1⟩, h1, h2⟩ := Option.bind_eq_some_iff.1 h
    simp only [Option.some.injEq] at h2
    subst h2
    obtain ⟨hE, hn, hdd, hS⟩ := hR _ _ _ _ _ h1
    refine ⟨CC, ⟨hn, hdd, fun h0 => absurd trivial (h0 0), fun e' H' he hH => ?_⟩, fun hq => by simp [bH] at hq⟩
    have hHH : H' = H := funext fun id => hH id (.inl trivial)
    subst hHH
    refine ⟨H1, ⟨fun _ _ => rfl, fun id hm => absurd trivial hm⟩, ?_⟩
    intro S0 L0 w0 S B F w a oper hop hM hρ hF hFw K Q hK
    have h7 := hρ fv (by simp [Op.operands, Call.operands])
    rw [he fv (by simp [Op.operands, Call.operands])] at h7
    obtain ⟨us, h3, h8, h9⟩ := Bc h7 hfn
    obtain ⟨h4, h5⟩ := Gz (e := e) (ρ := a.eval) (args := args) (fun x hx => by
     have := hρ x (by simp [Op.operands, Call.operands, hx])
     rwa [he x (by simp [Op.operands, Call.operands, hx])] at this) h8 h9
    unfold Oper.wp
    rw [vo hE h3 hop, Oper.upon_enter]
    have hF' := hFw fun _ => trivial
    refine Calls.mono' (hS S0 L0 w0 S B w _ (hM.weak fun id hi => (hF' id).2 hi) h4 h5) ?_
    intro e1 w1 hr
    cases e1 with
    | returned v =>
     obtain ⟨S1, B1, h6, h7, h8, h9, h10⟩ := hr
     exact hK v w1 S1 B1 h6 (h7.weak fun id hi => by have := (hF' id).1 hi.1; rcases hi.2 with h | h <;> omega) h8 h9 h10
    | _ => exact hr.elim
   | dat =>
    simp only [hsig] at h
    exact ⟨_, vp V hD hR (o := .call ⟨.value fv, args, ats⟩) (by simp only [hfn, hsig]; exact h), pF⟩
   | scal =>
    simp only [hsig] at h
    exact ⟨_, vp V hD hR (o := .call ⟨.value fv, args, ats⟩) (by simp only [hfn, hsig]; exact h), pF⟩
 ·rename_i hno
  refine ⟨_, vp V hD hR (o := o) ?_, pF⟩
  split
  ·rename_i fv args ats
   exact absurd rfl (hno fv args ats)
  ·exact h
end
end Go.Jv
namespace Go.Jv
inductive Tr (P : Program) (C : Cfg) (ops : Array Oper) : List Oper → St → List Ft → St → Prop where
 | nil (s : St) : Tr P C ops [] s [] s
 | skip (o : Oper) (rest : List Oper) (s : St) (fs : List Ft) (s' : St) (hw : am ops s.regs o = some false) (h : Tr P C ops rest { s with regs := aK s.regs o.dst .undef } fs s') : Tr P C ops (o :: rest) s (az :: fs) s'
 | go (o : Oper) (rest : List Oper) (s : St) (v : AV) (H1 : Hs) (n1 : Nat) (f : Ft) (fs : List Ft) (s' : St) (hw : am ops s.regs o = some true) (ho : rz P C (ev C s) o.op s.homes s.next (v, H1, n1) f) (hq : bH o.op = true → f = az)
   (h : Tr P C ops rest { regs := aK s.regs o.dst v, homes := H1, next := n1 } fs s') : Tr P C ops (o :: rest) s (f :: fs) s'
section
variable {P : Program} {C : Cfg} {S0 : Nat → Prop} {L0 : Lz} {w0 : World} {S : Nat → Prop} {B : Nat → Option Pl} {H : Hs} {F : Nat → Prop} {nx : Nat} {w : World}
theorem Dw {v : Value} (h : v.oneCell' = true) : AVR S w B (cav v) v := by
 unfold cav
 split
 ·exact .d _ _ (.int ..)
 ·exact .d _ _ (.bool ..)
 ·exact .d _ _ (.str ..)
 ·exact .nil
 ·exact .d _ _ (.cst _ h)
theorem rg (hM : Mem C S0 L0 w0 S B H F w) {regs : Nat → AV} {a : Act} (hR : ln S w B regs a.tmps) {x : Operand} (hx : nN a.tmps.size x = true) {H' : Hs} {nx : Nat} : AVR S w B (ev C ⟨regs, H', nx⟩ x) (a.eval x) := by
 cases x with
 | tmp t => exact hR t (by simpa [nN] using hx)
 | const v => exact Dw (by simpa [nN] using hx)
 | global g =>
  simp only [ev, Act.eval]
  split
  ·rename_i cs hg; exact .d _ _ (hM.glob g cs hg)
  ·exact .bad _
 | func f => exact .d _ _ (.fn f [] #[] rfl (fun j c u hj => by simp at hj))
theorem nQ {regs : Nat → AV} {tmps : Array Value} (hR : ln S w B regs tmps) {ops : Array Oper} (hok : ∀ o ∈ ops, mb tmps.size o = true) {o : Oper} {b : Bool} (h : am ops regs o = some b) :
  Region.wanted o (yielded ops tmps) = b := by
 unfold am at h
 unfold Region.wanted
 cases hg : o.guard with
 | none => simp only [hg, Option.some.injEq] at h; simpa using h
 | some q =>
  obtain ⟨j, c⟩ := q
  simp only [hg] at h ⊢
  cases ht : (ops[j]?).bind (·.dst) with
  | none => simp [ht] at h
  | some t =>
   simp only [ht] at h
   obtain ⟨y, hy, hd⟩ := Option.bind_eq_some_iff.1 ht
   have hlt : t < tmps.size := by
    have := hok y (Array.mem_of_getElem? hy)
    simp only [mb, hd, Bool.and_eq_true, decide_eq_true_eq] at this
    exact this.2
   have hr := hR t hlt
   have hget : tmps[t]? = some (tmps.getD t Go.undef) := by simp [Array.getElem?_eq_getElem hlt]
   split at h
   ·rename_i c' hc
    rw [hc] at hr
    have hv := hr.dV.boolV
    cases h
    simp only [yielded, ht, Option.bind_some, hget, hv]
    cases c' <;> cases c <;> rfl
   ·rename_i hc
    rw [hc] at hr
    cases h
    generalize tmps.getD t Go.undef = v at hr hget
    cases hr
    simp only [yielded, ht, Option.bind_some, hget]
    rfl
   ·cases h
structure At (C : Cfg) (S0 : Nat → Prop) (L0 : Lz) (w0 : World) (a0 : Act) (S : Nat → Prop) (w : World) (B : Nat → Option Pl) (regs : Nat → AV) (H : Hs) (F : Nat → Prop) (a1 : Act) (w1 : World) (S1 : Nat → Prop) (B1 : Nat → Option Pl) : Prop where
 mem : Mem C S0 L0 w0 S1 B1 H F w1
 regs : ln S1 w1 B1 regs a1.tmps
 size : a1.tmps.size = a0.tmps.size
 defers : a1.defers = a0.defers
 sub : ∀ b, S b → S1 b
 same : gn S w w1
 ext : Ext B B1
variable {a0 a1 : Act} {w1 : World} {S1 : Nat → Prop} {B1 : Nat → Option Pl} {regs : Nat → AV}
theorem Act.put_size (a : Act) (dst : Option Tmp) (v : Value) : (a.put dst v).tmps.size = a.tmps.size := by cases dst <;> simp [Act.put]
theorem Act.put_defers' (a : Act) (dst : Option Tmp) (v : Value) : (a.put dst v).defers = a.defers := by cases dst <;> rfl
theorem At.put (h : At C S0 L0 w0 a0 S w B regs H F a1 w1 S1 B1) (dst : Option Tmp) {x : AV} {v : Value} {w2 : World} {S2 : Nat → Prop} {B2 : Nat → Option Pl} {H2 : Hs} {F2 : Nat → Prop}
  (hv : AVR S2 w2 B2 x v) (hM : Mem C S0 L0 w0 S2 B2 H2 F2 w2) (hS : ∀ b, S1 b → S2 b) (hs : gn S1 w1 w2) (hE : Ext B1 B2) : At C S0 L0 w0 a0 S w B (aK regs dst x) H2 F2 (a1.put dst v) w2 S2 B2 :=
 ⟨hM, (h.regs.mono hS hs hE).put dst hv, (Act.put_size ..).trans h.size, (Act.put_defers' ..).trans h.defers, fun b hb => hS b (h.sub b hb), fun b hb => (hs b (h.sub b hb)).trans (h.same b hb), h.ext.trans hE⟩
theorem uL {n : Nat} {o : Oper} (h : mb n o = true) {x : Operand} (hx : x ∈ o.op.operands) : nN n x = true := by
 simp only [mb, Bool.and_eq_true] at h
 exact Array.all_eq_true_iff_forall_mem.1 h.1 x hx
theorem Tr.wp {ops : Array Oper} (hok : ∀ o ∈ ops, mb a0.tmps.size o = true) {Q : Exit → Act → World → Prop} {l : List Oper} {s : St} {fs : List Ft} {s' : St} (hT : Tr P C ops l s fs s') :
  ∀ (k : Nat), l = ops.toList.drop k → ∀ {a1 w1 S1 B1}, At C S0 L0 w0 a0 S w B s.regs s.homes (fun id => s.next ≤ id) a1 w1 S1 B1 →
  (∀ a2 w2 S2 B2, At C S0 L0 w0 a0 S w B s'.regs s'.homes (fun id => s'.next ≤ id) a2 w2 S2 B2 → Q .normal a2 w2) → wpOps P ops Q (List.range' k (ops.size - k)) a1 w1 := by
 induction hT with
 | nil s =>
  intro k hk a1 w1 S1 B1 hA hQ
  have : ops.size - k = 0 := by
   have := congrArg List.length hk
   simp at this; omega
  rw [this]
  exact hQ _ _ _ _ hA
 | skip o rest s fs s' hw hT ih =>
  intro k hk a1 w1 S1 B1 hA hQ
  have hlen := congrArg List.length hk
  simp only [List.length_cons, List.length_drop, Array.length_toList] at hlen
  have hget : ops[k]? = some o := by
   have : (ops.toList.drop k)[0]? = some o := by rw [← hk]; rfl
   simpa using this
  have hrest : rest = ops.toList.drop (k + 1) := by
   have := congrArg List.tail hk
   simpa using this
  obtain ⟨m, hm⟩ : ∃ m, ops.size - k = m + 1 := ⟨ops.size - k - 1, by omega⟩
  rw [hm, List.range'_succ, wpOps_cons]
  unfold wpOp
  have hwn := nQ hA.regs (fun o ho => by rw [hA.size]; exact hok o ho) hw
  rw [hget]
  simp only [hwn, Bool.false_eq_true, if_false]
  have hm' : m = ops.size - (k + 1) := by omega
  rw [hm']
  exact ih (k + 1) hrest (hA.put o.dst .undef hA.mem (fun _ h => h) (fun _ _ => rfl) (Ext.refl _)) hQ
 | go o rest s v H1 n1 f fs s' hw ho _ hT ih =>
  intro k hk a1 w1 S1 B1 hA hQ
  have hlen := congrArg List.length hk
  simp only [List.length_cons, List.length_drop, Array.length_toList] at hlen
  have hget : ops[k]? = some o := by
   have : (ops.toList.drop k)[0]? = some o := by rw [← hk]; rfl
   simpa using this
  have hrest : rest = ops.toList.drop (k + 1) := by
   have := congrArg List.tail hk
   simpa using this
  obtain ⟨m, hm⟩ : ∃ m, ops.size - k = m + 1 := ⟨ops.size - k - 1, by omega⟩
  rw [hm, List.range'_succ, wpOps_cons]
  unfold wpOp
  have hwn := nQ hA.regs (fun o ho => by rw [hA.size]; exact hok o ho) hw
  rw [hget]
  simp only [hwn, if_true]
  left
  have hm' : m = ops.size - (k + 1) := by omega
  rw [hm']
  have hoo := hok o (Array.mem_of_getElem? hget)
  obtain ⟨hn, _, _, hS⟩ := ho
  obtain ⟨H1', hL, hS⟩ := hS (ev C s) s.homes (fun _ _ => rfl) (fun _ _ => rfl)
  have hH : H1' = H1 := funext fun id => by
   by_cases hmd : f.mods id
   ·exact hL.1 id hmd
   ·exact (hL.2 id hmd).1.trans (hL.2 id hmd).2.symm
  subst hH
  refine hS a1 o rfl hA.mem (fun x hx => rg hA.mem hA.regs (by rw [hA.size]; exact uL hoo hx)) (fun id h1 _ => h1) (fun _ id => Iff.rfl) _ Q ?_
  intro val w2 S2 B2 hv hM hS2 hs hE
  exact ih (k + 1) hrest (hA.put o.dst hv (hM.weak fun id hi => ⟨Nat.le_trans hn hi, .inr hi⟩) hS2 hs hE) hQ
end
end Go.Jv
