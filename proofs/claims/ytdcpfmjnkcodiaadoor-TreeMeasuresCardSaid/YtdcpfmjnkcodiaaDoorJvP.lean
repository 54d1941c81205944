/- What the abstract machine says of a call, of an operation. -/
import Derived.Test.YtdcpfmjnkcodiaaDoorJvO
namespace Go.Jv

/-- what a call leaves that is handed trees alone -/
structure Grew (S : Nat → Prop) (w : World) (S1 : Nat → Prop) (w1 : World) : Prop where
  sub : ∀ b, S b → S1 b
  sIn : ∀ b, S1 b → S b ∨ w.heap.size ≤ b
  lt : ∀ b, S1 b → b < w1.heap.size
  keep : ∀ b, b < w.heap.size → w1.heap[b]? = w.heap[b]?
  size : w.heap.size ≤ w1.heap.size
  os : w1.os = w.os
  tape : w1.tape = w.tape
  output : w1.output = w.output

def noB : Nat → Option Pl := fun _ => none

/-- a call of it runs its body -/
def Enters (P : Program) (f : FuncId) : Prop := ∃ F, P.funcs[f]? = some F ∧ F.body.isNone = false ∧ (F.name == "runtime.NumGoroutine") = false

/-- the results, at a call's end -/
def Rets (R : Value → World → Prop) : Ending → World → Prop
  | .returned v, w => R v w
  | _, _ => False

def DSound (P : Program) (C : Cfg) (f : FuncId) (xs rs : List Dat) : Prop :=
  Enters P f ∧ ∀ (S : Nat → Prop) (w : World) (args : Array Value), (∀ b, S b → b < w.heap.size) → (∀ g cs, C.glob g = some cs → VR S w (.ptr cs) (.pointer (some ⟨g, 0, none⟩))) →
    args.size = xs.length → (∀ (i : Nat) x u, xs[i]? = some x → args[i]? = some u → VR S w x u) →
    Calls P f args w (Rets fun v w1 => ∃ S1, Grew S w S1 w1 ∧ AVR S1 w1 noB (tupA (rs.map .d)) v)

def RSound (P : Program) (C : Cfg) (f : FuncId) (vs : List AV) (H : Hs) (nx : Nat) (r : List AV × Hs × Nat) : Prop :=
  Enters P f ∧ nx ≤ r.2.2 ∧ ∀ (S0 L0 : Nat → Prop) (w0 : World) (S : Nat → Prop) (B : Nat → Option Pl) (w : World) (args : Array Value), Mem C S0 L0 w0 S B H (fun id => nx ≤ id) w →
    args.size = vs.length → (∀ (i : Nat) x u, vs[i]? = some x → args[i]? = some u → AVR S w B x u) →
    Calls P f args w (Rets fun v w1 => ∃ S1 B1, AVR S1 w1 B1 (tupA r.1) v ∧ Mem C S0 L0 w0 S1 B1 r.2.1 (fun id => r.2.2 ≤ id) w1 ∧ (∀ b, S b → S1 b) ∧ Same S w w1 ∧ Ext B B1)

/-- An operation, in whatever state that has its operands and the homes that it names. -/
def OpSound (P : Program) (C : Cfg) (e : Operand → AV) (o : Op) (H : Hs) (nx : Nat) (r : AV × Hs × Nat) : Prop :=
  nx ≤ r.2.2 ∧ ((footA C nx e o).md = some [] → r.2.2 = nx) ∧ ∀ (e' : Operand → AV) (H' : Hs), (∀ x ∈ o.operands, e' x = e x) → (∀ id, (footA C nx e o).looks id ∨ (footA C nx e o).mods id → H' id = H id) →
    ∃ H1', Local (footA C nx e o) H H' r.2.1 H1' ∧
    ∀ {S0 L0 : Nat → Prop} {w0 : World} {S : Nat → Prop} {B : Nat → Option Pl} {F : Nat → Prop} {w : World} (a : Act) (oper : Oper), oper.op = o → Mem C S0 L0 w0 S B H' F w →
      (∀ x ∈ o.operands, AVR S w B (e' x) (a.eval x)) → (∀ id, nx ≤ id → id < r.2.2 → F id) → ((footA C nx e o).md = none → ∀ id, F id ↔ nx ≤ id) →
      ∀ (K : Act → World → Prop) (Q : Exit → Act → World → Prop),
        (∀ val w1 S1 B1, AVR S1 w1 B1 r.1 val → Mem C S0 L0 w0 S1 B1 H1' (took F nx r.2.2) w1 → (∀ b, S b → S1 b) → Same S w w1 → Ext B B1 → K (a.put oper.dst val) w1) →
        oper.wp P a w K Q

section
variable {P : Program} {C : Cfg} {S0 L0 : Nat → Prop} {w0 : World} {S : Nat → Prop} {B : Nat → Option Pl} {H : Hs} {F : Nat → Prop} {nx : Nat} {w : World}

theorem Calls.mono' {f : FuncId} {args : Array Value} {R R' : Ending → World → Prop} (h : Calls P f args w R) (hr : ∀ e w, R e w → R' e w) : Calls P f args w R' :=
  fun cs => let ⟨e, w', fr, h1, h2⟩ := h cs; ⟨e, w', fr, hr _ _ h1, h2⟩

theorem act_next {e : Operand → AV} {o : Op} {x : AV} {H1 : Hs} {n1 : Nat} (h : act C H nx e o = some (x, H1, n1)) : nx ≤ n1 := by
  by_cases hq : quietOp o = true
  · exact Nat.le_of_eq (act_quiet hq h H).2.1.symm
  · cases o with
    | alloc t => simp only [act] at h; obtain ⟨y, hy, h⟩ := Option.bind_eq_some_iff.1 h; cases h; omega
    | box t a =>
      simp only [act] at h
      obtain ⟨y, hy, h⟩ := Option.bind_eq_some_iff.1 h
      split at h <;> cases h
      omega
    | buildSlice t len ps =>
      simp only [act] at h
      split at h <;> try cases h
      split at h <;> try cases h
      split at h <;> try cases h
      split at h <;> cases h
      omega
    | load t p => exact Nat.le_of_eq (map_pure h H).2.1.symm
    | slice t p lo hi mx => exact Nat.le_of_eq (map_pure h H).2.1.symm
    | indexAddr t p i => exact Nat.le_of_eq (map_pure h H).2.1.symm
    | store t p v =>
      simp only [act] at h
      obtain ⟨H2, h2, he⟩ := Option.map_eq_some_iff.1 h
      cases he
      omega
    | call c =>
      obtain ⟨callee, args, ats⟩ := c
      simp only [act] at h
      split at h
      · simp [quietOp] at hq
      · split at h
        · rw [appendA_next h]; omega
        · cases h
      · simp [quietOp] at hq
      · simp [quietOp] at hq
      · cases h
    | _ => first | (simp [quietOp] at hq; done) | simp [act] at h

theorem act_next0 {e : Operand → AV} {o : Op} {x : AV} {H1 : Hs} {n1 : Nat} (h : act C H nx e o = some (x, H1, n1)) (h0 : (footA C nx e o).md = some []) : n1 = nx := by
  by_cases hq : quietOp o = true
  · exact (act_quiet hq h H).2.1
  · cases o with
    | load t p => exact (map_pure h H).2.1
    | slice t p lo hi mx => exact (map_pure h H).2.1
    | indexAddr t p i => exact (map_pure h H).2.1
    | store t p v =>
      simp only [act] at h
      obtain ⟨H2, h2, he⟩ := Option.map_eq_some_iff.1 h
      cases he
      rfl
    | buildSlice t n ps => simp only [footA] at h0; split at h0 <;> cases h0
    | call c =>
      obtain ⟨callee, args, ats⟩ := c
      simp only [act] at h
      split at h
      · simp [quietOp] at hq
      · simp only [footA] at h0; split at h0 <;> cases h0
      · simp [quietOp] at hq
      · simp [quietOp] at hq
      · cases h
    | _ => first | (simp [quietOp] at hq; done) | (simp [act] at h; done) | cases h0

/-- blocks are made, no old one is changed -/
theorem Mem.called (hM : Mem C S0 L0 w0 S B H F w) {S1 : Nat → Prop} {w1 : World} (sub : ∀ b, S b → S1 b) (sIn : ∀ b, S1 b → S b ∨ w.heap.size ≤ b) (lt : ∀ b, S1 b → b < w1.heap.size)
    (keep : ∀ b, b < w.heap.size → w1.heap[b]? = w.heap[b]?) (size : w.heap.size ≤ w1.heap.size) (os : w1.os = w.os) (tape : w1.tape = w.tape) (output : w1.output = w.output) : Mem C S0 L0 w0 S1 B H F w1 := by
  have hs : Same S w w1 := fun b hb => keep b (hM.lt b hb)
  refine ⟨fun id => (hM.homes id).mono sub hs (Ext.refl _) (fun _ hn => hn) (fun hl p hp => keep _ ((hM.homes id).lt hl p hp)), hM.fresh, hM.freshB, hM.inj, ?_, lt,
    fun g cs hg => (hM.glob g cs hg).mono sub hs, os.trans hM.os, tape.trans hM.tape, output.trans hM.output, Nat.le_trans hM.size size, ?_, fun b hb => sub b (hM.sub b hb), hM.liveIn, ?_⟩
  · intro id p hl hp h1
    rcases sIn _ h1 with h2 | h2
    · exact hM.off id p hl hp h2
    · have := (hM.homes id).lt hl p hp; omega
  · intro b hb hl
    rw [keep b (by have := hM.size; omega)]
    exact hM.keep b hb hl
  · intro b hb
    rcases sIn b hb with h2 | h2
    · exact hM.sIn b h2
    · exact .inr (.inr (by have := hM.size; omega))

theorem fnOf_sound {v : AV} {u : Value} {f : FuncId} {caps : List AV} (hv : AVR S w B v u) (h : fnOf v = some (f, caps)) :
    ∃ us : Array Value, u = .func (.func f) #[] us ∧ us.size = caps.length ∧ ∀ (i : Nat) x u, caps[i]? = some x → us[i]? = some u → AVR S w B x u := by
  cases v with
  | d x =>
    cases x with
    | fn g cs =>
      simp only [fnOf, Option.some.injEq, Prod.mk.injEq] at h
      obtain ⟨rfl, rfl⟩ := h
      have hv' := hv.dV
      cases hv' with
      | fn _ _ vs hl hv2 =>
        refine ⟨vs, rfl, by simp [hl], fun i x u hx hu => ?_⟩
        rw [List.getElem?_map] at hx
        obtain ⟨y, hy, rfl⟩ := Option.map_eq_some_iff.1 hx
        exact .d _ _ (hv2 i y u hy hu)
    | _ => simp [fnOf] at h
  | fn g cs =>
    simp only [fnOf, Option.some.injEq, Prod.mk.injEq] at h
    obtain ⟨rfl, rfl⟩ := h
    cases hv with
    | fn _ _ vs hl hv => exact ⟨vs, rfl, hl.symm, hv⟩
  | _ => simp [fnOf] at h

theorem frzL_sound (n : Nat) : ∀ {vs : List AV} {us : List Value} {H : Hs} {S : Nat → Prop} {xs : List Dat} {H1 : Hs}, Mem C S0 L0 w0 S B H F w → us.length = vs.length →
    (∀ (i : Nat) x u, vs[i]? = some x → us[i]? = some u → AVR S w B x u) → frzL (frz n) H vs = some (xs, H1) →
    ∃ S1, Mem C S0 L0 w0 S1 B H1 F w ∧ (∀ b, S b → S1 b) ∧ us.length = xs.length ∧ ∀ (i : Nat) x u, xs[i]? = some x → us[i]? = some u → VR S1 w x u
  | [], us, H, S, xs, H1, hM, hl, hv, h => by
    simp only [frzL, Option.some.injEq, Prod.mk.injEq] at h
    obtain ⟨rfl, rfl⟩ := h
    exact ⟨S, hM, fun _ h => h, by simpa using hl, fun i x u hx => by simp at hx⟩
  | v :: vs, us, H, S, xs, H1, hM, hl, hv, h => by
    match us, hl with
    | u :: us, hl =>
      simp only [frzL] at h
      split at h
      · cases h
      · rename_i x H2 h2
        split at h
        · rename_i xs' H3 h3
          cases h
          obtain ⟨S1, hM1, hS1, hx, _⟩ := frz_sound n hM (hv 0 v u rfl rfl) h2
          obtain ⟨S2, hM2, hS2, hl2, hx2⟩ := frzL_sound n (us := us) hM1 (by simpa using hl) (fun i x u hx hu => (hv (i + 1) x u hx hu).mono hS1 (fun _ _ => rfl) (Ext.refl _)) h3
          refine ⟨S2, hM2, fun b hb => hS2 b (hS1 b hb), by simp [hl2], fun i x' u' hx' hu' => ?_⟩
          match i with
          | 0 => simp at hx' hu'; subst hx' hu'; exact hx.mono hS2 (fun _ _ => rfl)
          | i + 1 => exact hx2 i x' u' (by simpa using hx') (by simpa using hu')
        · cases h

theorem frzL_plain {n : Nat} : ∀ {vs : List AV} {H : Hs} {xs : List Dat} {H1 : Hs}, (∀ v ∈ vs, (datA v).isSome = true) → frzL (frz n) H vs = some (xs, H1) → ∀ H', H1 = H ∧ frzL (frz n) H' vs = some (xs, H')
  | [], H, xs, H1, _, h, H' => by
    simp only [frzL, Option.some.injEq, Prod.mk.injEq] at h ⊢
    exact ⟨h.2.symm, by simp [h.1]⟩
  | v :: vs, H, xs, H1, hp, h, H' => by
    simp only [frzL] at h ⊢
    split at h
    · cases h
    · rename_i x H2 h2
      obtain ⟨h3, h4⟩ := frz_plain (hp v (by simp)) h2 H'
      subst h3
      rw [h4]
      simp only
      split at h
      · rename_i xs' H3 h5
        simp only [Option.some.injEq, Prod.mk.injEq] at h
        obtain ⟨rfl, rfl⟩ := h
        obtain ⟨h6, h7⟩ := frzL_plain (fun v hv => hp v (by simp [hv])) h5 H'
        rw [h7]
        exact ⟨h6, rfl⟩
      · cases h

theorem tupA_one (v : AV) : tupA [v] = v := rfl

theorem plainD_any {T : Nat → Prop} {x : Dat} {v : Value} (hp : plainD x = true) (h : VR T w x v) (S' : Nat → Prop) (w' : World) : VR S' w' x v := by
  cases h with
  | int k n => exact .int k n
  | bool b => exact .bool b
  | str s => exact .str s
  | agg cs vs hl ho hv =>
    refine .agg cs vs hl ho fun j c u hj hu => ?_
    simp only [plainD, List.all_eq_true] at hp
    have hc := hp c (List.mem_of_getElem? hj)
    have := hv j c u hj hu
    cases this with
    | int k n => exact .int k n
    | bool b => exact .bool b
    | str s => exact .str s
    | _ => simp at hc
  | _ => simp [plainD] at hp

theorem plainAll_any {T : Nat → Prop} {B1 : Nat → Option Pl} {ds : List Dat} {v : Value} (hp : ds.all plainD = true) (h : AVR T w B1 (tupA (ds.map .d)) v) (S' : Nat → Prop) (w' : World) (B' : Nat → Option Pl) :
    AVR S' w' B' (tupA (ds.map .d)) v := by
  have hall := List.all_eq_true.1 hp
  match ds, hall, h with
  | [d], hall, h => exact .d _ _ (plainD_any (hall d (by simp)) h.dV S' w')
  | [], _, h =>
    simp only [List.map_nil, tupA] at h ⊢
    cases h with
    | tup _ vs hl hv => exact .tup _ vs hl fun j c u hj => by simp at hj
  | d :: d' :: ds, hall, h =>
    simp only [List.map_cons, tupA] at h ⊢
    cases h with
    | tup _ vs hl hv =>
      refine .tup _ vs hl fun j c u hj hu => ?_
      have hj' : ((d :: d' :: ds).map AV.d)[j]? = some c := by simpa using hj
      rw [List.getElem?_map] at hj'
      obtain ⟨y, hy, rfl⟩ := Option.map_eq_some_iff.1 hj'
      exact .d _ _ (plainD_any (hall y (List.mem_of_getElem? hy)) (hv j _ u hj hu).dV S' w')

/-- a call's arguments -/
theorem args_of {e : Operand → AV} {ρ : Operand → Value} {args : Array Operand} {caps : List AV} {us : Array Value} (ha : ∀ x ∈ args, AVR S w B (e x) (ρ x)) (hs : us.size = caps.length)
    (hc : ∀ (i : Nat) x u, caps[i]? = some x → us[i]? = some u → AVR S w B x u) :
    (args.map ρ ++ us).size = (args.toList.map e ++ caps).length ∧ ∀ (i : Nat) x u, (args.toList.map e ++ caps)[i]? = some x → (args.map ρ ++ us)[i]? = some u → AVR S w B x u := by
  refine ⟨by simp [hs], fun i x u hx hu => ?_⟩
  by_cases hi : i < args.size
  · rw [List.getElem?_append_left (by simpa using hi), List.getElem?_map] at hx
    rw [Array.getElem?_append_left (by simpa using hi), Array.getElem?_map] at hu
    obtain ⟨q, hq, rfl⟩ := Option.map_eq_some_iff.1 hx
    have hq' : args[i]? = some q := by simpa using hq
    rw [hq'] at hu
    cases hu
    exact ha q (Array.mem_of_getElem? hq')
  · rw [List.getElem?_append_right (by simpa using hi)] at hx
    rw [Array.getElem?_append_right (by simpa using hi)] at hu
    simp only [List.length_map, Array.length_toList] at hx
    simp only [Array.size_map] at hu
    exact hc _ x u hx hu

theorem run_call {f : FuncId} (hE : Enters P f) {ρ : Operand → Value} {fv : Operand} {us : Array Value} (hf : ρ fv = .func (.func f) #[] us) {o : Oper} {args : Array Operand} {ats : Array TypeId}
    (ho : o.op = .call ⟨.value fv, args, ats⟩) : (execOp ρ o).run P w = .ok (.enter f (args.map ρ ++ us)) w := by
  obtain ⟨G, h1, h2, h3⟩ := hE
  have h4 : ¬ G.name = "runtime.NumGoroutine" := by simpa using h3
  have h5 : ¬ G.body = none := by intro e; rw [e] at h2; cases h2
  unfold execOp
  simp [ho, resolve, Deferred.ofValue, hf, invoke, callFunc, h1, h4, h5]

theorem opV_case (V : Valid P C) {callD' : FuncId → List Dat → Option (List Dat)} {callR' : FuncId → List AV → Hs → Nat → Option (List AV × Hs × Nat)}
    (hD : ∀ f xs rs, callD' f xs = some rs → DSound P C f xs rs) (hR : ∀ f vs H nx r, callR' f vs H nx = some r → RSound P C f vs H nx r) {e : Operand → AV} {o : Op} {r : AV × Hs × Nat}
    (h : (match o with
      | .call { callee := .value fv, args, .. } =>
        match fnOf (e fv) with
        | none => none
        | some (f, caps) =>
          match C.sig f with
          | .raw => do
            let (vs, H1, n1) ← callR' f (args.toList.map e ++ caps) H nx
            some (tupA vs, H1, n1)
          | .dat =>
            match frzAll H (args.toList.map e ++ caps) with
            | none => none
            | some (xs, H1) => do
              let ds ← callD' f xs
              some (tupA (ds.map .d), H1, nx)
          | .scal =>
            match seeAll (see 4 H) (args.toList.map e ++ caps) with
            | none => none
            | some xs => do
              let ds ← callD' f xs
              if ds.all plainD then some (tupA (ds.map .d), H, nx) else none
      | o => act C H nx e o) = some r) : OpSound P C e o H nx r := by
  split at h
  · rename_i fv args ats
    cases hfn : fnOf (e fv) with
    | none => simp [hfn] at h
    | some fc =>
      obtain ⟨f, caps⟩ := fc
      simp only [hfn] at h
      have fnR : ∀ {S : Nat → Prop} {B : Nat → Option Pl} {w : World} {e' : Operand → AV} {a : Act}, (∀ x ∈ (Op.call ⟨.value fv, args, ats⟩).operands, e' x = e x) → (∀ x ∈ (Op.call ⟨.value fv, args, ats⟩).operands, AVR S w B (e' x) (a.eval x)) →
          ∃ us : Array Value, a.eval fv = .func (.func f) #[] us ∧ (args.map a.eval ++ us).size = (args.toList.map e ++ caps).length ∧ ∀ (i : Nat) x u, (args.toList.map e ++ caps)[i]? = some x → (args.map a.eval ++ us)[i]? = some u → AVR S w B x u := by
        intro S B w e' a he hρ
        have h1 := hρ fv (by simp [Op.operands, Call.operands])
        rw [he fv (by simp [Op.operands, Call.operands])] at h1
        obtain ⟨us, h2, h3, h4⟩ := fnOf_sound h1 hfn
        obtain ⟨h5, h6⟩ := args_of (e := e) (ρ := a.eval) (args := args) (fun x hx => by
          have := hρ x (by simp [Op.operands, Call.operands, hx])
          rwa [he x (by simp [Op.operands, Call.operands, hx])] at this) h3 h4
        exact ⟨us, h2, h5, h6⟩
      cases hsig : C.sig f with
      | raw =>
        simp only [hsig] at h
        obtain ⟨⟨vs, H1, n1⟩, h1, h2⟩ := Option.bind_eq_some_iff.1 h
        simp only [Option.some.injEq] at h2
        subst h2
        obtain ⟨hE, hn, hS⟩ := hR _ _ _ _ _ h1
        have hft : footA C nx e (.call ⟨.value fv, args, ats⟩) = ⟨none, none⟩ := by simp only [footA, hfn, hsig]
        refine ⟨hn, fun h0 => (by rw [hft] at h0; cases h0), fun e' H' he hH => ?_⟩
        rw [hft] at hH ⊢
        have hHH : H' = H := funext fun id => hH id (.inl trivial)
        subst hHH
        refine ⟨H1, ⟨fun _ _ => rfl, fun id hm => absurd trivial hm⟩, ?_⟩
        intro S0 L0 w0 S B F w a oper hop hM hρ hF hFw K Q hK
        obtain ⟨us, h3, h4, h5⟩ := fnR he hρ
        unfold Oper.wp
        rw [run_call hE h3 hop, Oper.upon_enter]
        have hF' := hFw rfl
        refine Calls.mono' (hS S0 L0 w0 S B w _ (hM.weak fun id hi => (hF' id).2 hi) h4 h5) ?_
        intro e1 w1 hr
        cases e1 with
        | returned v =>
          obtain ⟨S1, B1, h6, h7, h8, h9, h10⟩ := hr
          exact hK v w1 S1 B1 h6 (h7.weak fun id hi => by have := (hF' id).1 hi.1; rcases hi.2 with h | h <;> omega) h8 h9 h10
        | _ => exact hr.elim
      | dat =>
        simp only [hsig] at h
        cases hfz : frzAll H (args.toList.map e ++ caps) with
        | none => simp [hfz] at h
        | some q =>
          obtain ⟨xs, H1⟩ := q
          simp only [hfz] at h
          obtain ⟨ds, h1, h2⟩ := Option.bind_eq_some_iff.1 h
          simp only [Option.some.injEq] at h2
          subst h2
          obtain ⟨hE, hS⟩ := hD _ _ _ h1
          refine ⟨Nat.le_refl _, fun _ => rfl, fun e' H' he hH => ?_⟩
          have key : ∃ H1', Local (footA C nx e (.call ⟨.value fv, args, ats⟩)) H H' H1 H1' ∧ frzAll H' (args.toList.map e ++ caps) = some (xs, H1') := by
            by_cases hp : ((args.toList.map e ++ caps).all fun x => (datA x).isSome) = true
            · have hft : footA C nx e (.call ⟨.value fv, args, ats⟩) = noFt := by simp only [footA, hfn, hsig, hp, if_true]
              obtain ⟨h3, h4⟩ := frzL_plain (fun v hv => List.all_eq_true.1 hp v hv) hfz H'
              subst h3
              exact ⟨H', by rw [hft]; exact .quiet fun id hm => by simp [Ft.mods, noFt] at hm, h4⟩
            · have hft : footA C nx e (.call ⟨.value fv, args, ats⟩) = ⟨none, none⟩ := by simp only [footA, hfn, hsig]; rw [if_neg hp]
              rw [hft] at hH ⊢
              have hHH : H' = H := funext fun id => hH id (.inl trivial)
              subst hHH
              exact ⟨H1, ⟨fun _ _ => rfl, fun id hm => absurd trivial hm⟩, hfz⟩
          obtain ⟨H1', hL, hfz'⟩ := key
          refine ⟨H1', hL, ?_⟩
          intro S0 L0 w0 S B F w a oper hop hM hρ hF hFw K Q hK
          obtain ⟨us, h3, h4, h5⟩ := fnR he hρ
          obtain ⟨S1, hM1, hS1, hl, hx⟩ := frzL_sound 4 (us := (args.map a.eval ++ us).toList) hM (by rw [Array.length_toList]; exact h4) (fun i x u hx hu => h5 i x u hx (by rwa [Array.getElem?_toList] at hu)) hfz'
          unfold Oper.wp
          rw [run_call hE h3 hop, Oper.upon_enter]
          refine Calls.mono' (hS S1 w _ hM1.lt hM1.glob (by rw [← Array.length_toList]; exact hl) (fun i x u hx' hu => hx i x u hx' (by rwa [Array.getElem?_toList]))) ?_
          intro e1 w1 hr
          cases e1 with
          | returned v =>
            obtain ⟨S2, hg, hv⟩ := hr
            exact hK v w1 S2 B (hv.mono (fun _ h => h) (fun _ _ => rfl) (fun id p hp => by cases hp)) ((hM1.called hg.sub hg.sIn hg.lt hg.keep hg.size hg.os hg.tape hg.output).weak fun id hi => hi.1)
              (fun b hb => hg.sub b (hS1 b hb)) (fun b hb => hg.keep b (hM.lt b hb)) (Ext.refl _)
          | _ => exact hr.elim
      | scal =>
        simp only [hsig] at h
        cases hse : seeAll (see 4 H) (args.toList.map e ++ caps) with
        | none => simp [hse] at h
        | some xs =>
          simp only [hse] at h
          obtain ⟨ds, h1, h2⟩ := Option.bind_eq_some_iff.1 h
          split at h2
          · rename_i hpl
            simp only [Option.some.injEq] at h2
            subst h2
            obtain ⟨hE, hS⟩ := hD _ _ _ h1
            have hft : footA C nx e (.call ⟨.value fv, args, ats⟩) = ⟨none, some []⟩ := by simp only [footA, hfn, hsig]
            refine ⟨Nat.le_refl _, fun _ => rfl, fun e' H' he hH => ?_⟩
            rw [hft] at hH ⊢
            have hHH : H' = H := funext fun id => hH id (.inl trivial)
            subst hHH
            refine ⟨H', .quiet fun id hm => by simp [Ft.mods] at hm, ?_⟩
            intro S0 L0 w0 S B F w a oper hop hM hρ hF hFw K Q hK
            obtain ⟨us, h3, h4, h5⟩ := fnR he hρ
            obtain ⟨hl, hsee⟩ := seeAll_get hse
            unfold Oper.wp
            rw [run_call hE h3 hop, Oper.upon_enter]
            refine Calls.mono' (hS (fun b => S b ∨ Lv B H' b) w _ ?_ (fun g cs hg => (hM.glob g cs hg).mono (fun _ h => .inl h) (fun _ _ => rfl)) (by rw [h4, hl]) ?_) ?_
            · intro b hb
              rcases hb with hb | ⟨id, p, hlv, hp, rfl⟩
              · exact hM.lt b hb
              · exact (hM.homes id).lt hlv p hp
            · intro i x u hx hu
              have hi : i < (args.toList.map e ++ caps).length := by rw [hl]; exact (List.getElem?_eq_some_iff.1 hx).1
              obtain ⟨x', hx', hs⟩ := hsee i _ (List.getElem?_eq_getElem hi)
              rw [hx] at hx'
              cases hx'
              exact see_sound hM 4 (h5 i _ u (List.getElem?_eq_getElem hi) hu) hs
            · intro e1 w1 hr
              cases e1 with
              | returned v =>
                obtain ⟨S2, hg, hv⟩ := hr
                exact hK v w1 S B (plainAll_any hpl hv S w1 B) ((hM.called (fun _ h => h) (fun _ h => .inl h) (fun b hb => Nat.lt_of_lt_of_le (hM.lt b hb) hg.size) hg.keep hg.size hg.os hg.tape hg.output).weak fun id hi => hi.1)
                  (fun _ h => h) (fun b hb => hg.keep b (hM.lt b hb)) (Ext.refl _)
              | _ => exact hr.elim
          · cases h2
  · obtain ⟨x, H1, n1⟩ := r
    refine ⟨act_next h, act_next0 h, fun e' H' he hH => ?_⟩
    obtain ⟨H1', h1, hL⟩ := act_local h H' hH
    refine ⟨H1', hL, ?_⟩
    intro S0 L0 w0 S B F w a oper hop hM hρ hF hFw K Q hK
    rw [← act_congr he] at h1
    subst hop
    obtain ⟨val, w1, S1, B1, hr, hv, hM1, h2, h3, h4⟩ := act_sound V hM hρ h1 hF
    unfold Oper.wp
    rcases hr with hr | ⟨hr, rfl⟩
    · rw [hr, Oper.upon_value]; exact hK val w1 S1 B1 hv hM1 h2 h3 h4
    · rw [hr, Oper.upon_skip]; exact hK _ w1 S1 B1 hv hM1 h2 h3 h4

end
end Go.Jv
