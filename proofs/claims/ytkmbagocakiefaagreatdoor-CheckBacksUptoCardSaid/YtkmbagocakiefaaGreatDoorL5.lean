/- Each operation that calls no function. -/
import Derived.Test.YtkmbagocakiefaaGreatDoorL4
namespace Go.Jv
section
variable {P : Program} {C : Cfg} {S0 : Nat → Prop} {L0 : Lz} {w0 : World} {S : Nat → Prop} {B : Nat → Option Pl} {H : Hs} {F : Nat → Prop} {nx : Nat} {w : World}
theorem mw.pureV (hM : Mem C S0 L0 w0 S B H F w) {x : AV} {v : Value} (hv : AVR S w B x v) : mw C S0 L0 w0 S B F nx w ((pure (.value v) : Sem Next).run P w) x H nx :=
 ⟨v, w, S, B, .inl (by simp), hv, hM.weak (fun _ h => h.1), fun _ h => h, fun _ _ => rfl, Ext.refl _⟩
theorem I3 (V : ca P C) {t ty : TypeId} {x : AV} {v : Value} {n : Int} (hx : AVR S w B x v) (h : nc C t x = some n) : (Builtin.len_ #[t] ty #[v]).run P w = .ok (.int .i64 n) w := by
 unfold nc at h
 cases hy : C.ty t with
 | none => simp [hy] at h
 | some y =>
  simp only [hy] at h
  obtain ⟨hu, _⟩ := V.ty t y hy
  split at h
  ·rename_i s hd
   cases h
   rw [hd] at hu
   have := hx.dV.strV
   subst this
   simp [Builtin.len_, run_underlying hu, goInt]
  ·rename_i e xs hd
   cases h
   rw [hd] at hu
   have hv := hx.dV
   cases hv <;> simp [Builtin.len_, run_underlying hu, goInt]
  ·rename_i e id lo hi hd
   cases h
   rw [hd] at hu
   rcases hx.slCases with ⟨rfl, rfl, rfl⟩ | ⟨p, off, c, hp, rfl, _⟩ <;> simp [Builtin.len_, run_underlying hu, goInt]
  ·rename_i e hd
   cases h
   rw [hd] at hu
   cases hx
   simp [Builtin.len_, run_underlying hu, goInt]
  ·rename_i m e _ hd
   cases h
   rw [hd] at hu
   simp [Builtin.len_, run_underlying hu, goInt]
  ·cases h
theorem AVR.intV {k : IntKind} {n : Int} {v : Value} (h : AVR S w B (.d (.int k n)) v) : v = .int k n := h.dV.intV
theorem wy (V : ca P C) {t : TypeId} {i : Nat} {fd : Field} (h : nw C t i = some fd) : ∃ fs, P.underlying t = some (.struct fs) ∧ fs[i]? = some fd := by
 unfold nw at h
 split at h
 ·rename_i y hy
  split at h
  ·rename_i fs hd
   exact ⟨fs, (V.ty t y hy).1.trans (by rw [hd]), h⟩
  ·cases h
 ·cases h
theorem FG (V : ca P C) {t : TypeId} {x i r : AV} {v iv : Value} (hx : AVR S w B x v) (hi : AVR S w B i iv) (h : xS C t x i = some r) :
  ∃ val, (Instr.index t v iv).run P w = .ok val w ∧ AVR S w B r val := by
 unfold xS at h
 split at h
 ·cases h
 ·rename_i n hn
  obtain ⟨k, rfl⟩ := xm hi hn
  split at h
  ·cases h
  ·rename_i h0
   split at h
   ·rename_i s
    split at h
    ·rename_i y hy
     split at h
     ·rename_i hd
      obtain ⟨b, hb, rfl⟩ := Option.map_eq_some_iff.1 h
      have hu := (V.ty t y hy).1
      rw [hd] at hu
      have := hx.dV.strV
      subst this
      refine ⟨.int .u8 b.toNat, ?_, .d _ _ (.int ..)⟩
      have h0' : 0 ≤ n := by omega
      simp [Instr.index, asIntOf, run_underlying hu, h0', hb]
     ·cases h
    ·cases h
   ·unfold iq at h
    cases hy : C.ty t with
    | none => simp [hy] at h
    | some y =>
     simp only [hy] at h
     cases hd : y.desc with
     | array len e =>
      simp only [hd] at h
      have hu := (V.ty t y hy).1
      rw [hd] at hu
      split at h
      ·rename_i z g hz hg
       split at h
       ·rename_i hlt
        obtain ⟨vs, rfl, val, hrun, hR⟩ := Bk V hz hg hx h
        refine ⟨val, ?_, hR⟩
        have h0' : 0 ≤ n := by omega
        simp [Instr.index, asIntOf, run_underlying hu, h0', hlt, jJ V hz, hrun]
       ·cases h
      ·cases h
     | _ => simp [hd] at h
theorem J6 {as : List AV} {vs : List Value} {r : AV} (hl : as.length = vs.length) (hv : ∀ (i : Nat) a v, as[i]? = some a → vs[i]? = some v → AVR S w B a v) (ts : Array TypeId) (ty : TypeId)
  (h : Fd as = some r) : ∃ val, (Builtin.max_ ts ty vs.toArray).run P w = .ok val w ∧ AVR S w B r val := by
 unfold Fd at h
 split at h
 ·rename_i k a k' b
  split at h
  ·cases h
   match vs, hl with
   | [u, v], _ =>
    have h1 := (hv 0 _ _ rfl rfl).intV
    have h2 := (hv 1 _ _ rfl rfl).intV
    subst h1 h2
    exact ⟨_, by simp [Builtin.max_, Builtin.max2], .d _ _ (.int ..)⟩
  ·cases h
 ·cases h
theorem J7 {as : List AV} {vs : List Value} {r : AV} (hl : as.length = vs.length) (hv : ∀ (i : Nat) a v, as[i]? = some a → vs[i]? = some v → AVR S w B a v) (ts : Array TypeId) (ty : TypeId)
  (h : Fe as = some r) : ∃ val, (Builtin.min_ ts ty vs.toArray).run P w = .ok val w ∧ AVR S w B r val := by
 unfold Fe at h
 split at h
 ·rename_i k a k' b
  split at h
  ·cases h
   match vs, hl with
   | [u, v], _ =>
    have h1 := (hv 0 _ _ rfl rfl).intV
    have h2 := (hv 1 _ _ rfl rfl).intV
    subst h1 h2
    exact ⟨_, by simp [Builtin.min_, Builtin.min2], .d _ _ (.int ..)⟩
  ·cases h
 ·cases h
theorem Gu (V : ca P C) {t : TypeId} {f : Nat} {fd : Field} (hf : nw C t f = some fd) {n : Nat} {g : Bool} (hn : bP C fd.type = some n) (hg : lP C fd.type = some g) {x r : AV} {v : Value} (hx : AVR S w B x v)
  (h : jP x fd.offset n g = some r) :
  ∃ val, (Instr.field t v f).run P w = .ok val w ∧ AVR S w B r val := by
 obtain ⟨fs, hu, hfs⟩ := wy V hf
 obtain ⟨vs, rfl, val, hrun, hR⟩ := Bk V hn hg hx h
 exact ⟨val, by simp [Instr.field, run_underlying hu, hfs, asAgg, hrun], hR⟩
theorem Cj (V : ca P C) {t : TypeId} {f : Nat} {fd : Field} (hf : nw C t f = some fd) (hz : ¬ (bP C fd.type = some 0 ∨ bP C fd.type = none)) {x r : AV} {v : Value} (hx : AVR S w B x v)
  (h : vE x fd.offset = some r) :
  ∃ val, (Instr.fieldAt t v f).run P w = .ok val w ∧ AVR S w B r val := by
 obtain ⟨fs, hu, hfs⟩ := wy V hf
 cases hsz : bP C fd.type with
 | none => simp [hsz] at hz
 | some n =>
  have hn : n ≠ 0 := fun e => hz (.inl (by rw [hsz, e]))
  have hrun : ∀ b o, (Instr.fieldAt t (.pointer (some ⟨b, o, none⟩)) f).run P w = .ok (.pointer (some ⟨b, o + fd.offset, none⟩)) w := by
   intro b o
   simp [Instr.fieldAt, run_underlying hu, hfs, Instr.sureAddr, fieldPlace, jJ V hsz, hn, po]
  unfold vE at h
  cases x with
  | pt id o => cases h; cases hx with | pt _ _ p hp => exact ⟨_, hrun _ _, .pt _ _ p hp⟩
  | pe id i j => cases h; cases hx with | pe _ _ _ p hp => exact ⟨_, hrun _ _, by rw [Nat.add_assoc]; exact .pe _ _ _ p hp⟩
  | d x0 =>
   cases x0 <;> simp only [reduceCtorEq] at h
   rename_i cs
   cases h
   have hv := hx.dV
   cases hv with
   | ptr _ b off us hS hc ho hv => exact ⟨_, hrun _ _, .d _ _ ((VR.ptr cs b off us hS hc ho hv).ptrDrop fd.offset)⟩
  | _ => simp at h
theorem mw.valueM (hM : Mem C S0 L0 w0 S B H F w) {s : Sem Value} {r : Option AV} {x : AV} {H1 : Hs} {n1 : Nat} (h : (r.map fun v => (v, H, nx)) = some (x, H1, n1))
  (hs : ∀ z, r = some z → ∃ v, s.run P w = .ok v w ∧ AVR S w B z v) : mw C S0 L0 w0 S B F nx w ((do pure (.value (← s)) : Sem Next).run P w) x H1 n1 := by
 obtain ⟨y, hy, he⟩ := Option.map_eq_some_iff.1 h
 cases he
 obtain ⟨v, hr, hv⟩ := hs _ hy
 exact .value hM hr hv
theorem DK {e : Operand → AV} {ρ : Operand → Value} (ps : Array (Nat × Operand)) (h : ∀ x ∈ (ps.toList.map (·.2)).toArray, AVR S w B (e x) (ρ x)) :
  pW S w B (ps.toList.map fun (i, x) => (i, e x)) (ps.toList.map fun (i, x) => (i, ρ x)) := by
 refine ⟨by simp, fun j a v ha hv => ?_⟩
 rw [List.getElem?_map] at ha hv
 obtain ⟨q, hq, rfl⟩ := Option.map_eq_some_iff.1 ha
 rw [hq] at hv
 cases hv
 exact ⟨rfl, h q.2 (by simp; exact ⟨q.1, by have := List.mem_of_getElem? hq; simpa using this⟩)⟩
theorem yo {ts tx : TypeId} {s x r : AV} {H1 : Hs} {n1 : Nat} (h : ky C H nx ts tx s x = some (r, H1, n1)) : n1 = nx + 1 := by
 unfold ky at h
 split at h <;> try cases h
 split at h <;> try cases h
 split at h <;> try cases h
 split at h <;> try cases h
 split at h <;> cases h
 rfl
theorem J8 (V : ca P C) (hM : Mem C S0 L0 w0 S B H F w) {e : Operand → AV} {ρ : Operand → Value} {o : Oper} (hρ : ∀ x ∈ o.op.operands, AVR S w B (e x) (ρ x)) {x : AV} {H1 : Hs} {n1 : Nat}
  (h : act C H nx e o.op = some (x, H1, n1)) (hF : ∀ id, nx ≤ id → id < n1 → F id) : mw C S0 L0 w0 S B F nx w ((execOp ρ o).run P w) x H1 n1 := by
 obtain ⟨dst, op, type, pos, guard, after⟩ := o
 simp only at hρ h
 cases op with
 | move a =>
  simp only [act, Option.map_some, Option.some.injEq, Prod.mk.injEq] at h
  obtain ⟨rfl, rfl, rfl⟩ := h
  exact .pureV hM (hρ a (by simp [Op.operands]))
 | assign a =>
  simp only [act, Option.map_some, Option.some.injEq, Prod.mk.injEq] at h
  obtain ⟨rfl, rfl, rfl⟩ := h
  exact .pureV hM (hρ a (by simp [Op.operands]))
 | pick c a b =>
  have hc := hρ c (by simp [Op.operands])
  simp only [act] at h
  split at h
  ·rename_i hcc
   rw [hcc] at hc
   have := hc.dV.boolV
   simp only [Option.map_some, Option.some.injEq, Prod.mk.injEq] at h
   obtain ⟨rfl, rfl, rfl⟩ := h
   simp only [execOp, this, asBool, pure_bind]
   exact .pureV hM (hρ a (by simp [Op.operands]))
  ·rename_i hcc
   rw [hcc] at hc
   have := hc.dV.boolV
   simp only [Option.map_some, Option.some.injEq, Prod.mk.injEq] at h
   obtain ⟨rfl, rfl, rfl⟩ := h
   simp only [execOp, this, asBool, pure_bind]
   exact .pureV hM (hρ b (by simp [Op.operands]))
  ·cases h
 | alloc t =>
  simp only [act] at h
  obtain ⟨y, hy, h⟩ := Option.bind_eq_some_iff.1 h
  cases h
  obtain ⟨hu, i, z, hi, hsz, hby, hz, hzr⟩ := V.ty t y hy
  exact BK (v := z) (e := t) hM (hF nx (by omega) (by omega)) hzr.cells (by simp [Instr.alloc, zeroValue, typeInfo, hi, hz, newVar, newRow])
 | box t a =>
  simp only [act] at h
  obtain ⟨n, hn, h⟩ := Option.bind_eq_some_iff.1 h
  split at h
  ·rename_i hc
   cases h
   exact BK (v := ρ a) (e := t) hM (hF nx (by omega) (by omega)) ((hρ a (by simp [Op.operands])).cellsOk hc.2) (by simp [Instr.box, newVar, newRow])
  ·cases h
 | build t ps =>
  refine .valueM hM h fun y hy => ?_
  obtain ⟨v, h1, h2⟩ := F7 V (DK ps hρ) hy
  exact ⟨v, by rw [← h1]; congr 2; apply Array.ext'; simp, h2⟩
 | buildSlice t len ps =>
  simp only [act] at h
  split at h
  ·rename_i el hel
   split at h
   ·rename_i z ye hz hye
    split at h
    ·rename_i hc
     split at h
     ·rename_i xs H2 hp
      cases h
      have := Cg V hM (hF nx (by omega) (by omega)) hel hz hye hc (DK ps hρ) hp
      have e : (ps.toList.map fun (i, x) => (i, ρ x)).toArray = ps.map fun (i, x) => (i, ρ x) := by apply Array.ext'; simp
      rw [e] at this
      exact this
     ·cases h
    ·cases h
   ·cases h
  ·cases h
 | load t p => exact .valueM hM h fun y hy => B9 V hM (hρ p (by simp [Op.operands])) hy
 | store t p v =>
  simp only [act] at h
  obtain ⟨H2, h2, he⟩ := Option.map_eq_some_iff.1 h
  cases he
  obtain ⟨w', hr, hM', hs⟩ := Gr V hM (hρ p (by simp [Op.operands])) (hρ v (by simp [Op.operands])) h2
  exact ⟨Go.undef, w', S, B, .inr ⟨by simp [execOp, hr], rfl⟩, .undef, hM'.weak (fun _ h => h.1), fun _ h => h, hs, Ext.refl _⟩
 | nilCheck a =>
  have ha := hρ a (by simp [Op.operands])
  simp only [act] at h
  split at h
  ·rename_i id off hx
   rw [hx] at ha
   simp only [Option.map_some, Option.some.injEq, Prod.mk.injEq] at h
   obtain ⟨rfl, rfl, rfl⟩ := h
   simp only [execOp]
   generalize ρ a = v at ha ⊢
   cases ha
   exact .pureV hM (.pt _ _ _ (by assumption))
  ·rename_i id i j hx
   rw [hx] at ha
   simp only [Option.map_some, Option.some.injEq, Prod.mk.injEq] at h
   obtain ⟨rfl, rfl, rfl⟩ := h
   simp only [execOp]
   generalize ρ a = v at ha ⊢
   cases ha
   exact .pureV hM (.pe _ _ _ _ (by assumption))
  ·rename_i cs hx
   rw [hx] at ha
   simp only [Option.map_some, Option.some.injEq, Prod.mk.injEq] at h
   obtain ⟨rfl, rfl, rfl⟩ := h
   simp only [execOp]
   have hv := ha.dV
   generalize ρ a = v at ha hv ⊢
   cases hv
   exact .pureV hM ha
  ·cases h
 | binOp op t a b g =>
  refine .valueM hM h fun y hy => ?_
  obtain ⟨r, hr, rfl⟩ := Option.map_eq_some_iff.1 hy
  obtain ⟨v, h1, h2⟩ := HK (x := a) (y := b) V (hρ a (by simp [Op.operands])) (hρ b (by simp [Op.operands])) hr
  exact ⟨v, h1, .d _ _ h2⟩
 | unOp op t a =>
  refine .valueM hM h fun y hy => ?_
  obtain ⟨r, hr, rfl⟩ := Option.map_eq_some_iff.1 hy
  have ha := hρ a (by simp [Op.operands])
  split at hr
  ·rename_i x0 hx
   rw [hx] at ha
   obtain ⟨v, h1, h2⟩ := IS (P := P) ha.dV hr
   exact ⟨v, h1, .d _ _ h2⟩
  ·cases hr
 | convert s t a => exact .valueM hM h fun y hy => Gm V (hρ a (by simp [Op.operands])) hy
 | slice t a lo hi mx =>
  refine .valueM hM h fun y hy => ?_
  cases mx with
  | some m => simp [gr] at hy
  | none =>
   exact EH V hM (hρ a (by simp [Op.operands])) (fun b hb => by
     cases lo with
     | none => cases hb
     | some l => cases hb; exact ⟨_, rfl, hρ l (by simp [Op.operands])⟩) (fun hb => by cases lo <;> simp_all)
    (fun b hb => by
     cases hi with
     | none => cases hb
     | some l => cases hb; exact ⟨_, rfl, hρ l (by simp [Op.operands])⟩) (fun hb => by cases hi <;> simp_all) hy
 | fieldAddr t a f =>
  simp only [act] at h
  split at h
  ·rename_i fd hf
   split at h
   ·cases h
   ·rename_i hz
    exact .valueM hM h fun y hy => Cj V hf hz (hρ a (by simp [Op.operands])) hy
  ·cases h
 | field t a f =>
  simp only [act] at h
  split at h
  ·rename_i fd hf
   split at h
   ·rename_i n g hn hg
    exact .valueM hM h fun y hy => Gu V hf hn hg (hρ a (by simp [Op.operands])) hy
   ·cases h
  ·cases h
 | makeFunc fn first caps =>
  refine .valueM hM h fun y hy => ?_
  split at hy
  ·rename_i f
   split at hy
   ·rename_i hf
    cases hy
    have e1 : first = #[] := by simpa using hf
    subst e1
    refine ⟨.func (.func f) #[] (caps.map ρ), by simp [Instr.makeFunc], .fn f _ _ (by simp) fun j c u hc hu => ?_⟩
    rw [List.getElem?_map] at hc
    rw [Array.getElem?_map] at hu
    obtain ⟨q, hq, rfl⟩ := Option.map_eq_some_iff.1 hc
    have hq' : caps[j]? = some q := by simpa using hq
    rw [hq'] at hu
    cases hu
    exact hρ q (by simp only [Op.operands]; exact Array.mem_append_right _ (Array.mem_of_getElem? hq'))
   ·cases hy
  ·cases hy
 | makeSlice t l c =>
  simp only [act] at h
  obtain ⟨r, hr, h⟩ := Option.map_eq_some_iff.1 h
  cases h
  exact D6 V hM (hF nx (by omega) (by omega)) (hρ l (by simp [Op.operands])) (hρ c (by simp [Op.operands])) hr
 | makeMap t r =>
  simp only [act] at h
  split at h
  ·cases h
   exact FV hM (hF nx (by omega) (by omega))
  ·cases h
 | lookup t m x ok => exact .valueM hM h fun y hy => FT V hM (hρ m (by simp [Op.operands])) (hρ x (by simp [Op.operands])) hy
 | mapUpdate t m x v =>
  simp only [act] at h
  obtain ⟨H2, h2, he⟩ := Option.map_eq_some_iff.1 h
  cases he
  obtain ⟨w', S1, hr, hM', hS, hs⟩ := FU V hM (hρ m (by simp [Op.operands])) (hρ x (by simp [Op.operands])) (hρ v (by simp [Op.operands])) h2
  exact ⟨Go.undef, w', S1, B, .inr ⟨by simp [execOp, hr], rfl⟩, .undef, hM'.weak (fun _ h => h.1), hS, hs, Ext.refl _⟩
 | indexAddr t a i => exact .valueM hM h fun y hy => Av V hM (hρ a (by simp [Op.operands])) (hρ i (by simp [Op.operands])) hy
 | index t a i => exact .valueM hM h fun y hy => FG V (hρ a (by simp [Op.operands])) (hρ i (by simp [Op.operands])) hy
 | extract a i =>
  have ha := hρ a (by simp [Op.operands])
  simp only [act] at h
  split at h
  ·rename_i vs hx
   rw [hx] at ha
   refine .valueM hM h fun y hy => ?_
   generalize ρ a = v at ha
   cases ha with
   | tup _ us hl hv =>
    have hi : i < us.size := by have := (List.getElem?_eq_some_iff.1 hy).1; omega
    exact ⟨us[i], by simp [Instr.extract, hi], hv i y _ hy (by simp [hi])⟩
  ·cases h
 | call c =>
  have hargs : ∀ a ∈ c.args, AVR S w B (e a) (ρ a) := fun a ha => hρ a (by simp [Op.operands, Call.operands, ha])
  obtain ⟨callee, args, argTypes⟩ := c
  simp only at hargs
  simp only [act] at h
  have hl : ∀ (i : Nat) a v, (args.toList.map e)[i]? = some a → (args.toList.map ρ)[i]? = some v → AVR S w B a v := by
   intro i a v ha hv
   rw [List.getElem?_map] at ha hv
   obtain ⟨q, hq, rfl⟩ := Option.map_eq_some_iff.1 ha
   rw [hq] at hv
   cases hv
   exact hargs q (by have := List.mem_of_getElem? hq; simpa using this)
  have hmap : args.map ρ = (args.toList.map ρ).toArray := by apply Array.ext'; simp
  split at h
  ·split at h
   ·rename_i x0 t0 hx0 ht0
    have e1 : args = #[x0] := Array.ext' (by simpa using hx0)
    have e2 : argTypes = #[t0] := Array.ext' (by simpa using ht0)
    subst e1 e2
    have : execOp ρ ⟨dst, .call ⟨.builtin .len, #[x0], #[t0]⟩, type, pos, guard, after⟩ = (do pure (.value (← Builtin.len_ #[t0] type #[ρ x0])) : Sem Next) := by
     simp [execOp, resolve, invoke, builtin]
    rw [this]
    refine .valueM hM h fun y hy => ?_
    obtain ⟨n, hn, rfl⟩ := Option.map_eq_some_iff.1 hy
    exact ⟨_, I3 V (hargs x0 (by simp)) hn, .d _ _ (.int ..)⟩
   ·cases h
  ·split at h
   ·rename_i s0 x0 ts tx hx0 ht0
    have e1 : args = #[s0, x0] := Array.ext' (by simpa using hx0)
    have e2 : argTypes = #[ts, tx] := Array.ext' (by simpa using ht0)
    subst e1 e2
    have : execOp ρ ⟨dst, .call ⟨.builtin .append, #[s0, x0], #[ts, tx]⟩, type, pos, guard, after⟩ = (do pure (.value (← Builtin.append_ #[ts, tx] type #[ρ s0, ρ x0])) : Sem Next) := by
     simp [execOp, resolve, invoke, builtin]
    rw [this]
    exact Gw V hM (hF nx (by omega) (by have := yo h; omega)) (hargs s0 (by simp)) (hargs x0 (by simp)) h
   ·cases h
  ·have : execOp ρ ⟨dst, .call ⟨.builtin .max, args, argTypes⟩, type, pos, guard, after⟩ = (do pure (.value (← Builtin.max_ argTypes type (args.toList.map ρ).toArray)) : Sem Next) := by
    simp only [execOp, resolve, invoke, builtin, pure_bind, hmap]
   rw [this]
   exact .valueM hM h fun y hy => J6 (by simp) hl _ _ hy
  ·have : execOp ρ ⟨dst, .call ⟨.builtin .min, args, argTypes⟩, type, pos, guard, after⟩ = (do pure (.value (← Builtin.min_ argTypes type (args.toList.map ρ).toArray)) : Sem Next) := by
    simp only [execOp, resolve, invoke, builtin, pure_bind, hmap]
   rw [this]
   exact .valueM hM h fun y hy => J7 (by simp) hl _ _ hy
  ·cases h
 | _ => simp [act] at h
end
end Go.Jv
namespace Go.Jv
abbrev Ft.looks (f : Ft) (id : Nat) : Prop := f.rd id
abbrev Ft.mods (f : Ft) (id : Nat) : Prop := f.md id
theorem Ij {C : Cfg} {H : Hs} {nx : Nat} {e e' : Operand → AV} {o : Op} (he : ∀ x ∈ o.operands, e' x = e x) : act C H nx e' o = act C H nx e o := by
 have hps : ∀ (ps : Array (Nat × Operand)), (∀ x ∈ (ps.toList.map (·.2)).toArray, e' x = e x) → (ps.toList.map fun (i, x) => (i, e' x)) = ps.toList.map fun (i, x) => (i, e x) := by
  intro ps h
  refine List.map_congr_left fun q hq => ?_
  obtain ⟨i, x⟩ := q
  simp only
  rw [h x (by simp; exact ⟨i, by simpa using hq⟩)]
 cases o with
 | build t ps => simp only [act, hps ps he]
 | buildSlice t n ps => simp only [act, hps ps he]
 | slice t x lo hi mx =>
  have h1 : lo.map e' = lo.map e := by cases lo with | none => rfl | some l => simp [he l (by simp [Op.operands])]
  have h2 : hi.map e' = hi.map e := by cases hi with | none => rfl | some l => simp [he l (by simp [Op.operands])]
  simp only [act, h1, h2, he x (by simp [Op.operands])]
 | call c =>
  obtain ⟨callee, args, ats⟩ := c
  have ha : ∀ a ∈ args.toList, e' a = e a := fun a h => he a (by simp [Op.operands, Call.operands]; exact .inr (by simpa using h))
  have hm : args.toList.map e' = args.toList.map e := List.map_congr_left ha
  simp only [act, hm]
  split
  ·split
   ·rename_i hx _; rw [hx] at ha; simp at ha; simp only [ha]
   ·rfl
  ·split
   ·rename_i hx _; rw [hx] at ha; simp at ha; simp only [ha]
   ·rfl
  ·rfl
  ·rfl
  ·rfl
 | makeFunc fn first caps =>
  have hm : caps.toList.map e' = caps.toList.map e := List.map_congr_left fun a h => he a (by simp only [Op.operands]; exact Array.mem_append_right _ (by simpa using h))
  simp only [act, hm]
 | _ => simp_all [act, Op.operands]
def sZ (f : Ft) (H H' H1 H1' : Hs) : Prop := (∀ id, f.mods id → H1' id = H1 id) ∧ ∀ id, ¬ f.mods id → H1' id = H' id ∧ H1 id = H id
theorem sZ.quiet {f : Ft} {H H' : Hs} (h : ∀ id, f.mods id → H' id = H id) : sZ f H H' H H' := ⟨h, fun _ _ => ⟨rfl, rfl⟩⟩
theorem ce {H : Hs} {nx : Nat} {r : Option AV} {x : AV} {H1 : Hs} {n1 : Nat} (h : (r.map fun v => (v, H, nx)) = some (x, H1, n1)) (H' : Hs) :
  H1 = H ∧ n1 = nx ∧ (r.map fun v => (v, H', nx)) = some (x, H', nx) := by
 obtain ⟨y, rfl, he⟩ := Option.map_eq_some_iff.1 h
 cases he
 exact ⟨rfl, rfl, rfl⟩
theorem ta {C : Cfg} {H : Hs} {nx : Nat} {e : Operand → AV} {o : Op} (hq : bH o = true) {x : AV} {H1 : Hs} {n1 : Nat} (h : act C H nx e o = some (x, H1, n1)) (H' : Hs) :
  H1 = H ∧ n1 = nx ∧ act C H' nx e o = some (x, H', nx) := by
 cases o with
 | move a => exact ce (r := some (e a)) h H'
 | assign a => exact ce (r := some (e a)) h H'
 | pick c a b => simp only [act] at h ⊢; split at h <;> first | exact ce h H' | cases h
 | nilCheck a => simp only [act] at h ⊢; split at h <;> first | exact ce h H' | cases h
 | extract a i => simp only [act] at h ⊢; split at h <;> first | exact ce h H' | cases h
 | fieldAddr t a f =>
  simp only [act] at h ⊢
  split at h
  ·split at h
   ·cases h
   ·rename_i hz; rw [if_neg hz]; exact ce h H'
  ·cases h
 | field t a f =>
  simp only [act] at h ⊢
  split at h
  ·split at h
   ·exact ce h H'
   ·cases h
  ·cases h
 | call c =>
  obtain ⟨callee, args, ats⟩ := c
  simp only [act] at h ⊢
  split at h
  ·split at h
   ·exact ce h H'
   ·cases h
  ·simp [bH] at hq
  ·exact ce h H'
  ·exact ce h H'
  ·cases h
 | _ => first | exact ce h H' | simp [bH] at hq
theorem G5 {C : Cfg} {H : Hs} {nx n1 : Nat} {e : Operand → AV} {o : Op} (hq : bH o = true) : bE C H nx n1 e o = az := by
 cases o with
 | call c =>
  obtain ⟨callee, args, ats⟩ := c
  simp only [bH] at hq
  split at hq <;> simp_all [bE]
 | _ => first | rfl | simp [bH] at hq
theorem xy {H H' : Hs} {i : Nat} {h : dq} {X : Nat → Prop} (hi : X i) {f : Ft} (hf : f.md = X) (hH : ∀ id, X id → H' id = H id) : sZ f H H' (upd H i h) (upd H' i h) := by
 refine ⟨fun id hm => ?_, fun id hm => ?_⟩
 ·rw [Ft.mods, hf] at hm
  simp only [upd]
  split
  ·rfl
  ·exact hH id hm
 ·rw [Ft.mods, hf] at hm
  have : id ≠ i := fun e => hm (e ▸ hi)
  simp [upd, this]
def iF (X : Nat → Prop) (H : Hs) : Prop := ∀ j cs c i, X j → H j = .box cs → c ∈ cs → fT i c → X i
theorem aX.closed (H : Hs) (vs : List AV) : iF (aX H vs) H := fun j cs c _ hj hb hc hm => .box j cs c hj hb hc hm
theorem aX.sub {X : Nat → Prop} {H : Hs} {vs : List AV} (hX : iF X H) (hv : ∀ v ∈ vs, ∀ i, fT i v → X i) : ∀ i, aX H vs i → X i := by
 intro i h
 induction h with
 | arg v h hm => exact hv v h _ hm
 | box j cs c hj hb hc hm ih => exact hX j cs c _ ih hb hc hm
theorem aX.congr {H H' : Hs} {vs : List AV} (h : ∀ i, aX H vs i → H' i = H i) : aX H' vs = aX H vs := by
 funext i
 refine propext ⟨fun hr => ?_, fun hr => ?_⟩
 ·induction hr with
  | arg v h hm => exact .arg v h hm
  | box j cs c hj hb hc hm ih => exact .box j cs c ih ((h j ih).symm.trans hb) hc hm
 ·induction hr with
  | arg v h hm => exact .arg v h hm
  | box j cs c hj hb hc hm ih => exact .box j cs c ih ((h j hj).trans hb) hc hm
structure In (X : Nat → Prop) (H H' H1 H1' : Hs) : Prop where
 on : ∀ i, X i → H1' i = H1 i
 off : ∀ i, ¬ X i → H1' i = H' i ∧ H1 i = H i
 cl : iF X H1
theorem In.refl {X : Nat → Prop} {H H' : Hs} (hX : iF X H) (hH : ∀ i, X i → H' i = H i) : In X H H' H H' := ⟨hH, fun _ _ => ⟨rfl, rfl⟩, hX⟩
theorem In.trans {X : Nat → Prop} {H H' H1 H1' H2 H2' : Hs} (h : In X H H' H1 H1') (k : In X H1 H1' H2 H2') : In X H H' H2 H2' :=
 ⟨k.on, fun i hi => ⟨(k.off i hi).1.trans (h.off i hi).1, (k.off i hi).2.trans (h.off i hi).2⟩, k.cl⟩
theorem In.upd {X : Nat → Prop} {H H' H1 H1' : Hs} (h : In X H H' H1 H1') {id : Nat} (hx : X id) {q : dq} (hq : ∀ cs, q ≠ .box cs) : In X H H' (Go.Jv.upd H1 id q) (Go.Jv.upd H1' id q) := by
 refine ⟨fun i hi => ?_, fun i hi => ?_, fun j cs c i hj hb hc hm => ?_⟩
 ·simp only [Go.Jv.upd]; split
  ·rfl
  ·exact h.on i hi
 ·have : i ≠ id := fun e => hi (e ▸ hx)
  simp only [Go.Jv.upd, this, if_false]; exact h.off i hi
 ·simp only [Go.Jv.upd] at hb
  split at hb
  ·exact absurd hb (hq cs)
  ·exact h.cl j cs c i hj hb hc hm
theorem yY {X : Nat → Prop} : ∀ (n : Nat) {H H' : Hs} {v : AV} {x : Dat} {H1 : Hs}, iF X H → (∀ i, X i → H' i = H i) → (∀ i, fT i v → X i) → frz n H v = some (x, H1) → ∃ H1', frz n H' v = some (x, H1') ∧ In X H H' H1 H1'
 | 0, _, _, _, _, _, _, _, _, h => by simp [frz] at h
 | n + 1, H, H', v, x, H1, hX, hH, hv, h => by
  have list : ∀ (cs : List AV) {H H' : Hs} {xs : List Dat} {H1 : Hs}, iF X H → (∀ i, X i → H' i = H i) → (∀ c ∈ cs, ∀ i, fT i c → X i) → cg (frz n) H cs = some (xs, H1) → ∃ H1', cg (frz n) H' cs = some (xs, H1') ∧ In X H H' H1 H1' := by
   intro cs
   induction cs with
   | nil =>
    intro H H' xs H1 hX hH _ h
    simp only [cg, Option.some.injEq, Prod.mk.injEq] at h
    obtain ⟨rfl, rfl⟩ := h
    exact ⟨H', rfl, .refl hX hH⟩
   | cons c cs ihl =>
    intro H H' xs H1 hX hH hc h
    simp only [cg] at h
    split at h
    ·cases h
    ·rename_i x0 H2 h0
     split at h
     ·rename_i xs0 H3 h1
      cases h
      obtain ⟨H2', h2, i2⟩ := yY n hX hH (hc c (by simp)) h0
      obtain ⟨H3', h3, i3⟩ := ihl i2.cl i2.on (fun c hm => hc c (by simp [hm])) h1
      exact ⟨H3', by simp only [cg, h2, h3], i2.trans i3⟩
     ·cases h
  cases v with
  | d x0 => simp only [frz, Option.some.injEq, Prod.mk.injEq] at h ⊢; obtain ⟨rfl, rfl⟩ := h; exact ⟨H', ⟨rfl, rfl⟩, .refl hX hH⟩
  | nil => simp only [frz, Option.some.injEq, Prod.mk.injEq] at h ⊢; obtain ⟨rfl, rfl⟩ := h; exact ⟨H', ⟨rfl, rfl⟩, .refl hX hH⟩
  | sl id lo hi =>
   have hx : X id := hv id (.sl lo hi)
   simp only [frz, hH id hx] at h ⊢
   split at h
   ·split at h
    ·rename_i hc
     rw [if_pos hc]
     simp only [Option.some.injEq, Prod.mk.injEq] at h ⊢
     obtain ⟨rfl, rfl⟩ := h
     exact ⟨_, ⟨rfl, rfl⟩, (In.refl hX hH).upd hx (fun cs => by simp)⟩
    ·cases h
   ·split at h
    ·rename_i hc
     rw [if_pos hc]
     simp only [Option.some.injEq, Prod.mk.injEq] at h ⊢
     obtain ⟨rfl, rfl⟩ := h
     exact ⟨_, ⟨rfl, rfl⟩, .refl hX hH⟩
    ·cases h
   ·cases h
  | pt id off =>
   have hx : X id := hv id (.pt off)
   simp only [frz, hH id hx] at h ⊢
   split at h
   ·simp only [Option.some.injEq, Prod.mk.injEq] at h ⊢
    obtain ⟨rfl, rfl⟩ := h
    exact ⟨_, ⟨rfl, rfl⟩, .refl hX hH⟩
   ·rename_i cs hb
    split at h
    ·rename_i xs H2 h2
     obtain ⟨H2', h3, i2⟩ := list cs hX hH (fun c hc i hm => hX id cs c i hx hb hc hm) h2
     simp only [h3, i2.on id hx]
     split at h
     ·rename_i cs2 hb2
      simp only [Option.some.injEq, Prod.mk.injEq] at h ⊢
      obtain ⟨rfl, rfl⟩ := h
      exact ⟨_, ⟨rfl, rfl⟩, i2.upd hx (fun cs => by simp)⟩
     ·cases h
    ·cases h
   ·cases h
  | agg cs =>
   simp only [frz] at h ⊢
   obtain ⟨⟨xs, H2⟩, h2, he⟩ := Option.map_eq_some_iff.1 h
   simp only [Prod.mk.injEq] at he
   obtain ⟨rfl, rfl⟩ := he
   obtain ⟨H2', h3, i2⟩ := list cs hX hH (fun c hc i hm => hv i (.agg cs c hc hm)) h2
   exact ⟨H2', by rw [h3]; rfl, i2⟩
  | fn f cs =>
   simp only [frz] at h ⊢
   obtain ⟨⟨xs, H2⟩, h2, he⟩ := Option.map_eq_some_iff.1 h
   simp only [Prod.mk.injEq] at he
   obtain ⟨rfl, rfl⟩ := he
   obtain ⟨H2', h3, i2⟩ := list cs hX hH (fun c hc i hm => hv i (.fn f cs c hc hm)) h2
   exact ⟨H2', by rw [h3]; rfl, i2⟩
  | _ => simp [frz] at h
theorem EQ {X : Nat → Prop} (n : Nat) : ∀ (cs : List AV) {H H' : Hs} {xs : List Dat} {H1 : Hs}, iF X H → (∀ i, X i → H' i = H i) → (∀ c ∈ cs, ∀ i, fT i c → X i) → cg (frz n) H cs = some (xs, H1) → ∃ H1', cg (frz n) H' cs = some (xs, H1') ∧ In X H H' H1 H1'
 | [], H, H', xs, H1, hX, hH, _, h => by
  simp only [cg, Option.some.injEq, Prod.mk.injEq] at h
  obtain ⟨rfl, rfl⟩ := h
  exact ⟨H', rfl, .refl hX hH⟩
 | c :: cs, H, H', xs, H1, hX, hH, hc, h => by
  simp only [cg] at h
  split at h
  ·cases h
  ·rename_i x0 H2 h0
   split at h
   ·rename_i xs0 H3 h1
    cases h
    obtain ⟨H2', h2, i2⟩ := yY n hX hH (hc c (by simp)) h0
    obtain ⟨H3', h3, i3⟩ := EQ n cs i2.cl i2.on (fun c hm => hc c (by simp [hm])) h1
    exact ⟨H3', by simp only [cg, h2, h3], i2.trans i3⟩
   ·cases h
theorem GB {X : Nat → Prop} {H H' : Hs} (hX : iF X H) (hH : ∀ i, X i → H' i = H i) : ∀ (n : Nat) {v : AV}, (∀ i, fT i v → X i) → see n H' v = see n H v
 | 0, _, _ => rfl
 | n + 1, v, hv => by
  have list : ∀ (cs : List AV), (∀ c ∈ cs, ∀ i, fT i c → X i) → ck (see n H') cs = ck (see n H) cs := by
   intro cs
   induction cs with
   | nil => intro _; rfl
   | cons c cs ih => intro hc; simp only [ck, GB hX hH n (hc c (by simp)), ih fun c hm => hc c (by simp [hm])]
  cases v with
  | sl id lo hi => simp only [see, hH id (hv id (.sl lo hi))]
  | pt id off =>
   simp only [see, hH id (hv id (.pt off))]
   split
   ·rfl
   ·rename_i cs hb
    rw [list cs fun c hc i hm => hX id cs c i (hv id (.pt off)) hb hc hm]
   ·rfl
  | agg cs => simp only [see, list cs fun c hc i hm => hv i (.agg cs c hc hm)]
  | fn f cs => simp only [see, list cs fun c hc i hm => hv i (.fn f cs c hc hm)]
  | _ => rfl
theorem Bv {X : Nat → Prop} {H H' : Hs} (hX : iF X H) (hH : ∀ i, X i → H' i = H i) (n : Nat) : ∀ (cs : List AV), (∀ c ∈ cs, ∀ i, fT i c → X i) → ck (see n H') cs = ck (see n H) cs
 | [], _ => rfl
 | c :: cs, hc => by simp only [ck, GB hX hH n (hc c (by simp)), Bv hX hH n cs fun c hm => hc c (by simp [hm])]
theorem Bw {X : Nat → Prop} {sz : Nat} : ∀ (as : List (Nat × AV)) {H H' : Hs} {xs ys : List Dat} {H1 : Hs}, iF X H → (∀ i, X i → H' i = H i) → (∀ p ∈ as, ∀ i, fT i p.2 → X i) → dy sz H xs as = some (ys, H1) → ∃ H1', dy sz H' xs as = some (ys, H1') ∧ In X H H' H1 H1'
 | [], H, H', xs, ys, H1, hX, hH, _, h => by
  simp only [dy, Option.some.injEq, Prod.mk.injEq] at h ⊢
  obtain ⟨rfl, rfl⟩ := h
  exact ⟨H', ⟨rfl, rfl⟩, .refl hX hH⟩
 | (i, v) :: as, H, H', xs, ys, H1, hX, hH, hc, h => by
  simp only [dy] at h
  split at h
  ·rename_i x H2 h2
   split at h
   ·rename_i hcond
    obtain ⟨H2', h3, i2⟩ := yY 4 hX hH (hc (i, v) (by simp)) h2
    obtain ⟨H3', h4, i3⟩ := Bw as i2.cl i2.on (fun p hm => hc p (by simp [hm])) h
    exact ⟨H3', by simp only [dy, h3, if_pos hcond, h4], i2.trans i3⟩
   ·cases h
  ·cases h
theorem xz {n : Nat} {H : Hs} {v : AV} {x : Dat} {H1 : Hs} (hp : (dN v).isSome = true) (h : frz n H v = some (x, H1)) (H' : Hs) : H1 = H ∧ frz n H' v = some (x, H') := by
 match n, v, hp, h with
 | 0, _, _, h => simp [frz] at h
 | n + 1, .d y, _, h => simp only [frz, Option.some.injEq, Prod.mk.injEq] at h ⊢; exact ⟨h.2.symm, by simp [h.1]⟩
 | n + 1, .nil, _, h => simp only [frz, Option.some.injEq, Prod.mk.injEq] at h ⊢; exact ⟨h.2.symm, by simp [h.1]⟩
 | n + 1, .agg cs, hp, h =>
  have key : ∀ (cs : List AV) (H H' : Hs) (xs : List Dat) (H1 : Hs), (ck (fun | .d x => some x | .nil => some (.lst []) | _ => none) cs).isSome = true → cg (frz n) H cs = some (xs, H1) → H1 = H ∧ cg (frz n) H' cs = some (xs, H') := by
   intro cs
   induction cs with
   | nil => intro H H' xs H1 _ h; simp only [cg, Option.some.injEq, Prod.mk.injEq] at h ⊢; exact ⟨h.2.symm, by simp [h.1]⟩
   | cons c cs ih =>
    intro H H' xs H1 hp h
    simp only [ck] at hp
    simp only [cg] at h ⊢
    split at hp
    ·rename_i y ys hc hcs
     cases hf : frz n H c with
     | none => simp [hf] at h
     | some r =>
      simp only [hf] at h
      have hr : r.2 = H ∧ frz n H' c = some (r.1, H') := by
       match n, c, hf, hc with
       | 0, _, hf, _ => simp [frz] at hf
       | n + 1, .d y, hf, _ => simp only [frz, Option.some.injEq] at hf ⊢; subst hf; exact ⟨rfl, rfl⟩
       | n + 1, .nil, hf, _ => simp only [frz, Option.some.injEq] at hf ⊢; subst hf; exact ⟨rfl, rfl⟩
      rw [hr.1] at h
      simp only [hr.2]
      cases hl : cg (frz n) H cs with
      | none => simp [hl] at h
      | some q =>
       simp only [hl, Option.some.injEq, Prod.mk.injEq] at h
       obtain ⟨h1, h2⟩ := ih H H' q.1 q.2 (by rw [hcs]; rfl) hl
       rw [h2]
       exact ⟨h.2.symm.trans h1, by simp only [h.1]⟩
    ·cases hp
  simp only [frz] at h ⊢
  obtain ⟨r, hr, he⟩ := Option.map_eq_some_iff.1 h
  simp only [Prod.mk.injEq] at he
  have hp' : (ck (fun | .d x => some x | .nil => some (.lst []) | _ => none) cs).isSome = true := by
   simp only [dN, Option.isSome_map] at hp; exact hp
  obtain ⟨h1, h2⟩ := key cs H H' r.1 r.2 hp' hr
  exact ⟨he.2.symm.trans h1, by simp [h2, he.1]⟩
theorem xA {sz : Nat} {H : Hs} : ∀ {as : List (Nat × AV)} {xs : List Dat} {ys : List Dat} {H1 : Hs}, (∀ p ∈ as, (dN p.2).isSome = true) → dy sz H xs as = some (ys, H1) → ∀ H', H1 = H ∧ dy sz H' xs as = some (ys, H')
 | [], xs, ys, H1, _, h, H' => by simp only [dy, Option.some.injEq, Prod.mk.injEq] at h ⊢; exact ⟨h.2.symm, by simp [h.1]⟩
 | (i, v) :: as, xs, ys, H1, hp, h, H' => by
  simp only [dy] at h ⊢
  split at h
  ·rename_i x H2 h2
   obtain ⟨h3, h4⟩ := xz (hp (i, v) (by simp)) h2 H'
   subst h3
   rw [h4]
   simp only
   split at h
   ·rename_i hc
    rw [if_pos hc]
    exact xA (fun p hq => hp p (by simp [hq])) h H'
   ·cases h
  ·cases h
theorem Hc {H H' : Hs} {v : AV} (h : ∀ id ∈ aH v, H' id = H id) {xs : List Dat} (hs : see 1 H v = some (.lst xs)) : see 1 H' v = some (.lst xs) := by
 cases v with
 | sl id lo hi => simp only [see] at hs ⊢; rw [h id (by simp [aH])]; exact hs
 | pt id off =>
  simp only [see] at hs
  split at hs
  ·simp at hs
  ·simp at hs
  ·cases hs
 | d x => exact hs
 | nil => exact hs
 | _ => simp [see] at hs
theorem G6 {C : Cfg} {H H' : Hs} {t : TypeId} {p : AV} (h : ∀ id ∈ aH p, H' id = H id) : iQ C H' t p = iQ C H t p := by
 cases p with
 | pt id off => simp only [iQ, h id (by simp [aH])]
 | pe id i j => simp only [iQ, h id (by simp [aH])]
 | d x => cases x <;> rfl
 | _ => rfl
theorem ER {C : Cfg} {H H' : Hs} {t : TypeId} {x : AV} {lo hi : Option AV} {mx : Bool} (h : ∀ id ∈ aH x, H' id = H id) : gr C H' t x lo hi mx = gr C H t x lo hi mx := by
 unfold gr
 cases C.ty t with
 | none => rfl
 | some y =>
  obtain ⟨desc, size, bytes, zero⟩ := y
  cases x with
  | sl id a b =>
   have hid := h id (by simp [aH])
   cases desc <;> first | rfl | simp only [hid]
  | d x => cases x <;> cases desc <;> rfl
  | _ => cases desc <;> rfl
theorem AC {C : Cfg} {H H' : Hs} {t : TypeId} {x i : AV} (h : ∀ id ∈ aH x, H' id = H id) : dJ C H' t x i = dJ C H t x i := by
 unfold dJ
 cases x with
 | sl id a b => simp only [h id (by simp [aH])]
 | d x => cases x <;> rfl
 | _ => rfl
theorem ES {C : Cfg} {H H' : Hs} {t : TypeId} {p v : AV} (h : ∀ id ∈ aH p, H' id = H id) {H1 : Hs} (hs : ke C H t p v = some H1) :
  ∃ id hm, aH p = [id] ∧ H1 = upd H id hm ∧ ke C H' t p v = some (upd H' id hm) := by
 unfold ke at hs ⊢
 cases hz : bP C t with
 | none => simp [hz] at hs
 | some n =>
  simp only [hz] at hs ⊢
  cases p with
  | pt id off =>
   have hid := h id (by simp [aH])
   simp only [hid] at hs ⊢
   split at hs
   ·split at hs
    ·rename_i hc
     cases hs
     exact ⟨id, _, rfl, rfl, by rw [if_pos hc]⟩
    ·cases hs
   ·cases hs
  | pe id i j =>
   have hid := h id (by simp [aH])
   simp only [hid] at hs ⊢
   split at hs
   ·split at hs
    ·split at hs
     ·rename_i hc
      split at hs
      ·cases hs
       exact ⟨id, _, rfl, rfl, by rw [if_pos hc]⟩
      ·split at hs
       ·cases hs
        exact ⟨id, _, rfl, rfl, by rw [if_pos hc]⟩
       ·cases hs
     ·cases hs
    ·cases hs
   ·cases hs
  | _ => cases hs
theorem G7 {H H' : Hs} {r : Row} {s : AV} (h : ∀ id ∈ aH s, H' id = H id) {xs : List Dat} {H1 : Hs} (hs : pH H r s = some (xs, H1)) :
  ∃ H1', pH H' r s = some (xs, H1') ∧ (∀ id, id ∈ aH s → H1' id = H1 id) ∧ ∀ id, id ∉ aH s → H1' id = H' id ∧ H1 id = H id := by
 cases s with
 | nil =>
  simp only [pH, Option.some.injEq, Prod.mk.injEq] at hs
  obtain ⟨rfl, rfl⟩ := hs
  exact ⟨H', rfl, h, fun _ _ => ⟨rfl, rfl⟩⟩
 | sl id lo hi =>
  have hid := h id (by simp [aH])
  simp only [pH, hid] at hs ⊢
  split at hs
  ·split at hs
   ·rename_i hc
    cases hs
    rw [if_pos hc]
    exact ⟨_, rfl, fun j hj => by simp [aH] at hj; subst hj; simp [upd], fun j hj => by simp [aH] at hj; simp [upd, hj]⟩
   ·cases hs
  ·cases hs
 | _ => cases hs
theorem In.local {X : Nat → Prop} {H H' H1 H1' : Hs} (h : In X H H' H1 H1') {f : Ft} (hf : f.md = X) : sZ f H H' H1 H1' :=
 ⟨fun i hi => h.on i (by rwa [Ft.mods, hf] at hi), fun i hi => h.off i (by rwa [Ft.mods, hf] at hi)⟩
theorem Ik {C : Cfg} {H : Hs} {nx : Nat} {e : Operand → AV} {o : Op} {x : AV} {H1 : Hs} {n1 : Nat} (h : act C H nx e o = some (x, H1, n1)) (H' : Hs)
  (hH : ∀ id, (bE C H nx n1 e o).looks id ∨ (bE C H nx n1 e o).mods id → H' id = H id) :
  ∃ H1', act C H' nx e o = some (x, H1', n1) ∧ sZ (bE C H nx n1 e o) H H' H1 H1' := by
 by_cases hq : bH o = true
 ·obtain ⟨h1, h2, h3⟩ := ta hq h H'
  subst h1 h2
  exact ⟨H', h3, .quiet fun id hm => hH id (.inr hm)⟩
 ·have fresh : ∀ {f : Ft} {q : dq}, f = .of [] [nx] → (∀ id, f.looks id ∨ f.mods id → H' id = H id) → sZ f H H' (upd H nx q) (upd H' nx q) := fun {f} {q} hf hH =>
   xy (X := f.md) (by rw [hf]; simp [Ft.of]) rfl (fun id hm => hH id (.inr hm))
  cases o with
  | alloc t =>
   simp only [act] at h ⊢
   obtain ⟨y, hy, h⟩ := Option.bind_eq_some_iff.1 h
   cases h
   exact ⟨_, by rw [hy]; rfl, fresh rfl hH⟩
  | makeSlice t l c =>
   simp only [act] at h ⊢
   obtain ⟨y, hy, h⟩ := Option.map_eq_some_iff.1 h
   cases h
   exact ⟨_, by rw [hy]; rfl, fresh rfl hH⟩
  | makeMap t r =>
   simp only [act] at h ⊢
   split at h
   ·cases h
    exact ⟨_, rfl, fresh rfl hH⟩
   ·cases h
  | box t a =>
   simp only [act] at h ⊢
   obtain ⟨y, hy, h⟩ := Option.bind_eq_some_iff.1 h
   split at h
   ·rename_i hc
    cases h
    exact ⟨_, by rw [hy]; simp only [Option.bind_some]; rw [if_pos hc], fresh rfl hH⟩
   ·cases h
  | buildSlice t len ps =>
   by_cases hp : (ps.toList.all fun (_, x) => (dN (e x)).isSome) = true
   ·have hf : bE C H nx n1 e (.buildSlice t len ps) = .of [] [nx] := by simp only [bE, hp, if_true]
    rw [hf] at hH ⊢
    simp only [act] at h ⊢
    split at h
    ·rename_i el hel
     split at h
     ·rename_i z ye hz hye
      split at h
      ·rename_i hc
       split at h
       ·rename_i xs H2 hpd
        cases h
        obtain ⟨h1, h2⟩ := xA (fun q hq => by
         obtain ⟨p, hpm, rfl⟩ := List.mem_map.1 hq
         exact List.all_eq_true.1 hp p hpm) hpd H'
        subst h1
        rw [if_pos hc, h2]
        exact ⟨_, rfl, fresh rfl hH⟩
       ·cases h
      ·cases h
     ·cases h
    ·cases h
   ·have hf : bE C H nx n1 e (.buildSlice t len ps) = ⟨aX H (ps.toList.map fun (_, x) => e x), fun i => i = nx ∨ aX H (ps.toList.map fun (_, x) => e x) i⟩ := by simp only [bE]; rw [if_neg hp]
    rw [hf] at hH ⊢
    simp only [act] at h ⊢
    split at h
    ·rename_i el hel
     split at h
     ·rename_i z ye hz hye
      split at h
      ·rename_i hc
       split at h
       ·rename_i xs H2 hpd
        cases h
        obtain ⟨H2', h2, i2⟩ := Bw _ (aX.closed H _) (fun i hi => hH i (.inl hi)) (fun p hp i hm => by
         obtain ⟨q, hq, rfl⟩ := List.mem_map.1 hp
         exact .arg (e q.2) (List.mem_map.2 ⟨q, hq, rfl⟩) hm) hpd
        rw [if_pos hc, h2]
        refine ⟨_, rfl, fun i hi => ?_, fun i hi => ?_⟩
        ·simp only [upd]
         split
         ·rfl
         ·rename_i hne
          exact i2.on i (hi.resolve_left hne)
        ·have h3 : ¬ i = nx := fun e => hi (.inl e)
         simp only [upd, h3, if_false]
         exact i2.off i fun h => hi (.inr h)
       ·cases h
      ·cases h
     ·cases h
    ·cases h
  | load t p =>
   have hl := G6 (C := C) (t := t) (fun id hi => hH id (.inl hi))
   simp only [act] at h ⊢
   obtain ⟨rfl, rfl, h3⟩ := ce h H'
   exact ⟨H', by rw [hl]; exact h3, .quiet fun id hm => by simp [Ft.mods, bE, Ft.of] at hm⟩
  | slice t a lo hi mx =>
   have hl := ER (C := C) (t := t) (lo := lo.map e) (hi := hi.map e) (mx := mx.isSome) (fun id hi => hH id (.inl hi))
   simp only [act] at h ⊢
   obtain ⟨rfl, rfl, h3⟩ := ce h H'
   exact ⟨H', by rw [hl]; exact h3, .quiet fun id hm => by simp [Ft.mods, bE, Ft.of] at hm⟩
  | indexAddr t a i =>
   have hl := AC (C := C) (t := t) (i := e i) (fun id hi => hH id (.inl hi))
   simp only [act] at h ⊢
   obtain ⟨rfl, rfl, h3⟩ := ce h H'
   exact ⟨H', by rw [hl]; exact h3, .quiet fun id hm => by simp [Ft.mods, bE, Ft.of] at hm⟩
  | lookup t m a ok =>
   have hl : oZ C H' t (e m) (e a) ok = oZ C H t (e m) (e a) ok := by
    cases hm : e m with
    | mp id =>
     have h1 : H' id = H id := hH id (.inl (show id ∈ aH (e m) by rw [hm]; simp [aH]))
     unfold oZ
     cases dN (e a) with
     | none => rfl
     | some key =>
      cases qB C t with
      | none => rfl
      | some q => simp only [h1]
    | _ => rfl
   simp only [act] at h ⊢
   obtain ⟨rfl, rfl, h3⟩ := ce h H'
   exact ⟨H', by rw [hl]; exact h3, .quiet fun id hm => by simp [Ft.mods, bE, Ft.of] at hm⟩
  | mapUpdate t m a v =>
   simp only [act] at h ⊢
   obtain ⟨H2, h2, he⟩ := Option.map_eq_some_iff.1 h
   simp only [Prod.mk.injEq] at he
   obtain ⟨rfl, rfl, rfl⟩ := he
   unfold rB at h2 ⊢
   split at h2
   ·rename_i id key k el d H3 hm hd hmt hfz
    split at h2
    ·rename_i es hes
     split at h2
     ·rename_i hk
      obtain ⟨es1, hput, rfl⟩ := Option.map_eq_some_iff.1 h2
      by_cases hp : (dN (e v)).isSome = true
      ·have hf : bE C H nx nx e (.mapUpdate t m a v) = .of [id] [id] := by simp only [bE, hp, if_true, hm, aH]
       rw [hf] at hH ⊢
       obtain ⟨h3, h4⟩ := xz hp hfz H'
       subst h3
       have hid : H' id = H3 id := hH id (.inl (show id ∈ [id] from List.mem_singleton.2 rfl))
       refine ⟨upd H' id (.map es1), ?_, xy (X := (Ft.of [id] [id]).md) (by simp [Ft.of]) rfl (fun j hj => hH j (.inr hj))⟩
       simp only [hm, hd, hmt, h4, hid, hes, if_pos hk, hput, Option.map_some]
      ·have hf : bE C H nx nx e (.mapUpdate t m a v) = ⟨aX H [e m, e v], aX H [e m, e v]⟩ := by simp only [bE]; rw [if_neg hp]
       rw [hf] at hH ⊢
       obtain ⟨H3', h4, i3⟩ := yY 4 (aX.closed H [e m, e v]) (fun i hi => hH i (.inl hi)) (fun i hi => .arg _ (by simp) hi) hfz
       have hx : aX H [e m, e v] id := .arg (e m) (by simp) (by rw [hm]; exact .mp)
       refine ⟨upd H3' id (.map es1), ?_, (i3.upd hx (fun cs => by simp)).local rfl⟩
       simp only [hm, hd, hmt, h4, i3.on id hx, hes, if_pos hk, hput, Option.map_some]
     ·cases h2
    ·cases h2
   ·cases h2
  | store t p v =>
   simp only [act] at h ⊢
   obtain ⟨H2, h2, he⟩ := Option.map_eq_some_iff.1 h
   simp only [Prod.mk.injEq] at he
   obtain ⟨rfl, rfl, rfl⟩ := he
   obtain ⟨id, hm, hid, rfl, h3⟩ := ES (fun id hi => hH id (.inl hi)) h2
   exact ⟨_, by rw [h3]; rfl, xy (X := fun i => i ∈ aH (e p)) (by rw [hid]; simp) rfl (fun j hj => hH j (.inr hj))⟩
  | call c =>
   obtain ⟨callee, args, ats⟩ := c
   simp only [act] at h
   split at h
   ·simp [bH] at hq
   ·split at h
    ·rename_i s0 x0 ts tx hx ht
     have hf : bE C H nx n1 e (.call ⟨.builtin .append, args, ats⟩) = .of (aH (e s0) ++ aH (e x0)) (nx :: aH (e s0)) := by simp only [bE, hx]
     rw [hf] at hH ⊢
     have hs0 : ∀ id ∈ aH (e s0), H' id = H id := fun id hi => hH id (.inl (by simp [Ft.looks, Ft.of, hi]))
     have hx0 : ∀ id ∈ aH (e x0), H' id = H id := fun id hi => hH id (.inl (by simp [Ft.looks, Ft.of, hi]))
     simp only [act, hx, ht]
     unfold ky at h ⊢
     split at h
     ·rename_i htt
      rw [if_pos htt]
      split at h
      ·cases h
      ·split at h
       ·cases h
       ·rename_i ye hye
        split at h
        ·rename_i xs H2 new hb hn
         split at h
         ·rename_i hc
          simp only [Option.some.injEq, Prod.mk.injEq] at h
          obtain ⟨rfl, rfl, rfl⟩ := h
          obtain ⟨H2', h3, h4, h5⟩ := G7 hs0 hb
          rw [h3, Hc hx0 hn]
          simp only [if_pos hc]
          refine ⟨_, rfl, fun id hm => ?_, fun id hm => ?_⟩
          ·simp only [upd]
           split
           ·rfl
           ·rename_i hne
            refine h4 id ?_
            simp only [Ft.mods, Ft.of, List.mem_cons] at hm
            exact hm.resolve_left hne
          ·simp only [Ft.mods, Ft.of, List.mem_cons, not_or] at hm
           simp only [upd, hm.1, if_false]
           exact h5 id hm.2
         ·cases h
        ·cases h
     ·cases h
    ·cases h
   ·simp [bH] at hq
   ·simp [bH] at hq
   ·cases h
  | _ => first | (simp [bH] at hq; done) | (simp [act] at h; done)
end Go.Jv
