/- Each operation that calls no function. -/
import Derived.Test.YtdcpfmjnkcodiaaDoorJvM
namespace Go.Jv

section
variable {P : Program} {C : Cfg} {S0 L0 : Nat → Prop} {w0 : World} {S : Nat → Prop} {B : Nat → Option Pl} {H : Hs} {F : Nat → Prop} {nx : Nat} {w : World}

theorem StepR.pureV (hM : Mem C S0 L0 w0 S B H F w) {x : AV} {v : Value} (hv : AVR S w B x v) : StepR C S0 L0 w0 S B F nx w ((pure (.value v) : Sem Next).run P w) x H nx :=
  ⟨v, w, S, B, .inl (by simp), hv, hM.weak (fun _ h => h.1), fun _ h => h, fun _ _ => rfl, Ext.refl _⟩

theorem lenA_sound (V : Valid P C) {t ty : TypeId} {x : AV} {v : Value} {n : Int} (hx : AVR S w B x v) (h : lenA C t x = some n) : (Builtin.len_ #[t] ty #[v]).run P w = .ok (.int .i64 n) w := by
  unfold lenA at h
  cases hy : C.ty t with
  | none => simp [hy] at h
  | some y =>
    simp only [hy] at h
    obtain ⟨hu, _⟩ := V.ty t y hy
    split at h
    · rename_i s hd
      cases h
      rw [hd] at hu
      have := hx.dV.strV
      subst this
      simp [Builtin.len_, run_underlying hu, goInt]
    · rename_i e xs hd
      cases h
      rw [hd] at hu
      have hv := hx.dV
      cases hv <;> simp [Builtin.len_, run_underlying hu, goInt]
    · rename_i e id lo hi hd
      cases h
      rw [hd] at hu
      rcases hx.slCases with ⟨rfl, rfl, rfl⟩ | ⟨p, off, c, hp, rfl, _⟩ <;> simp [Builtin.len_, run_underlying hu, goInt]
    · rename_i e hd
      cases h
      rw [hd] at hu
      cases hx
      simp [Builtin.len_, run_underlying hu, goInt]
    · rename_i m e _ hd
      cases h
      rw [hd] at hu
      simp [Builtin.len_, run_underlying hu, goInt]
    · cases h

theorem AVR.intV {k : IntKind} {n : Int} {v : Value} (h : AVR S w B (.d (.int k n)) v) : v = .int k n := h.dV.intV

theorem fieldOf_sound (V : Valid P C) {t : TypeId} {i : Nat} {fd : Field} (h : fieldOf C t i = some fd) : ∃ fs, P.underlying t = some (.struct fs) ∧ fs[i]? = some fd := by
  unfold fieldOf at h
  split at h
  · rename_i y hy
    split at h
    · rename_i fs hd
      exact ⟨fs, (V.ty t y hy).1.trans (by rw [hd]), h⟩
    · cases h
  · cases h

theorem indexA_sound (V : Valid P C) {t : TypeId} {x i r : AV} {v iv : Value} (hx : AVR S w B x v) (hi : AVR S w B i iv) (h : indexA C t x i = some r) :
    ∃ val, (Instr.index t v iv).run P w = .ok val w ∧ AVR S w B r val := by
  unfold indexA at h
  split at h
  · cases h
  · rename_i n hn
    obtain ⟨k, rfl⟩ := intOfA_sound hi hn
    split at h
    · cases h
    · rename_i h0
      split at h
      · rename_i s
        split at h
        · rename_i y hy
          split at h
          · rename_i hd
            obtain ⟨b, hb, rfl⟩ := Option.map_eq_some_iff.1 h
            have hu := (V.ty t y hy).1
            rw [hd] at hu
            have := hx.dV.strV
            subst this
            refine ⟨.int .u8 b.toNat, ?_, .d _ _ (.int ..)⟩
            have h0' : 0 ≤ n := by omega
            simp [Instr.index, asIntOf, run_underlying hu, h0', hb]
          · cases h
        · cases h
      · unfold arrT at h
        cases hy : C.ty t with
        | none => simp [hy] at h
        | some y =>
          simp only [hy] at h
          cases hd : y.desc with
          | array len e =>
            simp only [hd] at h
            have hu := (V.ty t y hy).1
            rw [hd] at hu
            split at h
            · rename_i z g hz hg
              split at h
              · rename_i hlt
                obtain ⟨vs, rfl, val, hrun, hR⟩ := part_sound V hz hg hx h
                refine ⟨val, ?_, hR⟩
                have h0' : 0 ≤ n := by omega
                simp [Instr.index, asIntOf, run_underlying hu, h0', hlt, run_sizeT V hz, hrun]
              · cases h
            · cases h
          | _ => simp [hd] at h

theorem max_sound {as : List AV} {vs : List Value} {r : AV} (hl : as.length = vs.length) (hv : ∀ (i : Nat) a v, as[i]? = some a → vs[i]? = some v → AVR S w B a v) (ts : Array TypeId) (ty : TypeId)
    (h : maxA as = some r) : ∃ val, (Builtin.max_ ts ty vs.toArray).run P w = .ok val w ∧ AVR S w B r val := by
  unfold maxA at h
  split at h
  · rename_i k a k' b
    split at h
    · cases h
      match vs, hl with
      | [u, v], _ =>
        have h1 := (hv 0 _ _ rfl rfl).intV
        have h2 := (hv 1 _ _ rfl rfl).intV
        subst h1 h2
        exact ⟨_, by simp [Builtin.max_, Builtin.max2], .d _ _ (.int ..)⟩
    · cases h
  · cases h

theorem min_sound {as : List AV} {vs : List Value} {r : AV} (hl : as.length = vs.length) (hv : ∀ (i : Nat) a v, as[i]? = some a → vs[i]? = some v → AVR S w B a v) (ts : Array TypeId) (ty : TypeId)
    (h : minA as = some r) : ∃ val, (Builtin.min_ ts ty vs.toArray).run P w = .ok val w ∧ AVR S w B r val := by
  unfold minA at h
  split at h
  · rename_i k a k' b
    split at h
    · cases h
      match vs, hl with
      | [u, v], _ =>
        have h1 := (hv 0 _ _ rfl rfl).intV
        have h2 := (hv 1 _ _ rfl rfl).intV
        subst h1 h2
        exact ⟨_, by simp [Builtin.min_, Builtin.min2], .d _ _ (.int ..)⟩
    · cases h
  · cases h

theorem field_sound (V : Valid P C) {t : TypeId} {f : Nat} {fd : Field} (hf : fieldOf C t f = some fd) {n : Nat} {g : Bool} (hn : sizeT C fd.type = some n) (hg : aggT C fd.type = some g) {x r : AV} {v : Value} (hx : AVR S w B x v)
    (h : partA x fd.offset n g = some r) :
    ∃ val, (Instr.field t v f).run P w = .ok val w ∧ AVR S w B r val := by
  obtain ⟨fs, hu, hfs⟩ := fieldOf_sound V hf
  obtain ⟨vs, rfl, val, hrun, hR⟩ := part_sound V hn hg hx h
  exact ⟨val, by simp [Instr.field, run_underlying hu, hfs, asAgg, hrun], hR⟩

theorem fieldAddr_sound (V : Valid P C) {t : TypeId} {f : Nat} {fd : Field} (hf : fieldOf C t f = some fd) (hz : ¬ (sizeT C fd.type = some 0 ∨ sizeT C fd.type = none)) {x r : AV} {v : Value} (hx : AVR S w B x v)
    (h : addA x fd.offset = some r) :
    ∃ val, (Instr.fieldAt t v f).run P w = .ok val w ∧ AVR S w B r val := by
  obtain ⟨fs, hu, hfs⟩ := fieldOf_sound V hf
  cases hsz : sizeT C fd.type with
  | none => simp [hsz] at hz
  | some n =>
    have hn : n ≠ 0 := fun e => hz (.inl (by rw [hsz, e]))
    have hrun : ∀ b o, (Instr.fieldAt t (.pointer (some ⟨b, o, none⟩)) f).run P w = .ok (.pointer (some ⟨b, o + fd.offset, none⟩)) w := by
      intro b o
      simp [Instr.fieldAt, run_underlying hu, hfs, Instr.sureAddr, fieldPlace, run_sizeT V hsz, hn, addr_add]
    unfold addA at h
    cases x with
    | pt id o => cases h; cases hx with | pt _ _ p hp => exact ⟨_, hrun _ _, .pt _ _ p hp⟩
    | pe id i j => cases h; cases hx with | pe _ _ _ p hp => exact ⟨_, hrun _ _, by rw [Nat.add_assoc]; exact .pe _ _ _ p hp⟩
    | d x0 =>
      cases x0 <;> simp only [reduceCtorEq] at h
      rename_i cs
      cases h
      have hv := hx.dV
      cases hv with
      | ptr _ b off us hS hc ho hv => exact ⟨_, hrun _ _, .d _ _ ((VR.ptr cs b off us hS hc ho hv).ptrDrop fd.offset)⟩
    | _ => simp at h

theorem StepR.valueM (hM : Mem C S0 L0 w0 S B H F w) {s : Sem Value} {r : Option AV} {x : AV} {H1 : Hs} {n1 : Nat} (h : (r.map fun v => (v, H, nx)) = some (x, H1, n1))
    (hs : ∀ z, r = some z → ∃ v, s.run P w = .ok v w ∧ AVR S w B z v) : StepR C S0 L0 w0 S B F nx w ((do pure (.value (← s)) : Sem Next).run P w) x H1 n1 := by
  obtain ⟨y, hy, he⟩ := Option.map_eq_some_iff.1 h
  cases he
  obtain ⟨v, hr, hv⟩ := hs _ hy
  exact .value hM hr hv

theorem partsR_of {e : Operand → AV} {ρ : Operand → Value} (ps : Array (Nat × Operand)) (h : ∀ x ∈ (ps.toList.map (·.2)).toArray, AVR S w B (e x) (ρ x)) :
    PartsR S w B (ps.toList.map fun (i, x) => (i, e x)) (ps.toList.map fun (i, x) => (i, ρ x)) := by
  refine ⟨by simp, fun j a v ha hv => ?_⟩
  rw [List.getElem?_map] at ha hv
  obtain ⟨q, hq, rfl⟩ := Option.map_eq_some_iff.1 ha
  rw [hq] at hv
  cases hv
  exact ⟨rfl, h q.2 (by simp; exact ⟨q.1, by have := List.mem_of_getElem? hq; simpa using this⟩)⟩

theorem appendA_next {ts tx : TypeId} {s x r : AV} {H1 : Hs} {n1 : Nat} (h : appendA C H nx ts tx s x = some (r, H1, n1)) : n1 = nx + 1 := by
  unfold appendA at h
  split at h <;> try cases h
  split at h <;> try cases h
  split at h <;> try cases h
  split at h <;> try cases h
  split at h <;> cases h
  rfl

theorem act_sound (V : Valid P C) (hM : Mem C S0 L0 w0 S B H F w) {e : Operand → AV} {ρ : Operand → Value} {o : Oper} (hρ : ∀ x ∈ o.op.operands, AVR S w B (e x) (ρ x)) {x : AV} {H1 : Hs} {n1 : Nat}
    (h : act C H nx e o.op = some (x, H1, n1)) (hF : ∀ id, nx ≤ id → id < n1 → F id) : StepR C S0 L0 w0 S B F nx w ((execOp ρ o).run P w) x H1 n1 := by
  obtain ⟨dst, op, type, pos, guard, after⟩ := o
  simp only at hρ h
  cases op with
  | move a =>
    simp only [act, Option.map_some, Option.some.injEq, Prod.mk.injEq] at h
    obtain ⟨rfl, rfl, rfl⟩ := h
    exact .pureV hM (hρ a (by simp [Op.operands]))
  | assign a =>
    simp only [act, Option.map_some, Option.some.injEq, Prod.mk.injEq] at h
    obtain ⟨rfl, rfl, rfl⟩ := h
    exact .pureV hM (hρ a (by simp [Op.operands]))
  | pick c a b =>
    have hc := hρ c (by simp [Op.operands])
    simp only [act] at h
    split at h
    · rename_i hcc
      rw [hcc] at hc
      have := hc.dV.boolV
      simp only [Option.map_some, Option.some.injEq, Prod.mk.injEq] at h
      obtain ⟨rfl, rfl, rfl⟩ := h
      simp only [execOp, this, asBool, pure_bind]
      exact .pureV hM (hρ a (by simp [Op.operands]))
    · rename_i hcc
      rw [hcc] at hc
      have := hc.dV.boolV
      simp only [Option.map_some, Option.some.injEq, Prod.mk.injEq] at h
      obtain ⟨rfl, rfl, rfl⟩ := h
      simp only [execOp, this, asBool, pure_bind]
      exact .pureV hM (hρ b (by simp [Op.operands]))
    · cases h
  | alloc t =>
    simp only [act] at h
    obtain ⟨y, hy, h⟩ := Option.bind_eq_some_iff.1 h
    cases h
    obtain ⟨hu, i, z, hi, hsz, hby, hz, hzr⟩ := V.ty t y hy
    exact alloc_step (v := z) (e := t) hM (hF nx (by omega) (by omega)) hzr.cells (by simp [Instr.alloc, zeroValue, typeInfo, hi, hz, newVar, newRow])
  | box t a =>
    simp only [act] at h
    obtain ⟨n, hn, h⟩ := Option.bind_eq_some_iff.1 h
    split at h
    · rename_i hc
      cases h
      exact alloc_step (v := ρ a) (e := t) hM (hF nx (by omega) (by omega)) ((hρ a (by simp [Op.operands])).cellsOk hc.2) (by simp [Instr.box, newVar, newRow])
    · cases h
  | build t ps =>
    refine .valueM hM h fun y hy => ?_
    obtain ⟨v, h1, h2⟩ := buildA_sound V (partsR_of ps hρ) hy
    exact ⟨v, by rw [← h1]; congr 2; apply Array.ext'; simp, h2⟩
  | buildSlice t len ps =>
    simp only [act] at h
    split at h
    · rename_i el hel
      split at h
      · rename_i z ye hz hye
        split at h
        · rename_i hc
          split at h
          · rename_i xs H2 hp
            cases h
            have := buildSlice_step V hM (hF nx (by omega) (by omega)) hel hz hye hc (partsR_of ps hρ) hp
            have e : (ps.toList.map fun (i, x) => (i, ρ x)).toArray = ps.map fun (i, x) => (i, ρ x) := by apply Array.ext'; simp
            rw [e] at this
            exact this
          · cases h
        · cases h
      · cases h
    · cases h
  | load t p => exact .valueM hM h fun y hy => load_sound V hM (hρ p (by simp [Op.operands])) hy
  | store t p v =>
    simp only [act] at h
    obtain ⟨H2, h2, he⟩ := Option.map_eq_some_iff.1 h
    cases he
    obtain ⟨w', hr, hM', hs⟩ := store_sound V hM (hρ p (by simp [Op.operands])) (hρ v (by simp [Op.operands])) h2
    exact ⟨Go.undef, w', S, B, .inr ⟨by simp [execOp, hr], rfl⟩, .undef, hM'.weak (fun _ h => h.1), fun _ h => h, hs, Ext.refl _⟩
  | nilCheck a =>
    have ha := hρ a (by simp [Op.operands])
    simp only [act] at h
    split at h
    · rename_i id off hx
      rw [hx] at ha
      simp only [Option.map_some, Option.some.injEq, Prod.mk.injEq] at h
      obtain ⟨rfl, rfl, rfl⟩ := h
      simp only [execOp]
      generalize ρ a = v at ha ⊢
      cases ha
      exact .pureV hM (.pt _ _ _ (by assumption))
    · rename_i id i j hx
      rw [hx] at ha
      simp only [Option.map_some, Option.some.injEq, Prod.mk.injEq] at h
      obtain ⟨rfl, rfl, rfl⟩ := h
      simp only [execOp]
      generalize ρ a = v at ha ⊢
      cases ha
      exact .pureV hM (.pe _ _ _ _ (by assumption))
    · rename_i cs hx
      rw [hx] at ha
      simp only [Option.map_some, Option.some.injEq, Prod.mk.injEq] at h
      obtain ⟨rfl, rfl, rfl⟩ := h
      simp only [execOp]
      have hv := ha.dV
      generalize ρ a = v at ha hv ⊢
      cases hv
      exact .pureV hM ha
    · cases h
  | binOp op t a b g =>
    refine .valueM hM h fun y hy => ?_
    obtain ⟨r, hr, rfl⟩ := Option.map_eq_some_iff.1 hy
    obtain ⟨v, h1, h2⟩ := binA_sound (x := a) (y := b) V (hρ a (by simp [Op.operands])) (hρ b (by simp [Op.operands])) hr
    exact ⟨v, h1, .d _ _ h2⟩
  | unOp op t a =>
    refine .valueM hM h fun y hy => ?_
    obtain ⟨r, hr, rfl⟩ := Option.map_eq_some_iff.1 hy
    have ha := hρ a (by simp [Op.operands])
    split at hr
    · rename_i x0 hx
      rw [hx] at ha
      obtain ⟨v, h1, h2⟩ := unD_sound (P := P) ha.dV hr
      exact ⟨v, h1, .d _ _ h2⟩
    · cases hr
  | convert s t a => exact .valueM hM h fun y hy => convA_sound V (hρ a (by simp [Op.operands])) hy
  | slice t a lo hi mx =>
    refine .valueM hM h fun y hy => ?_
    cases mx with
    | some m => simp [sliceA] at hy
    | none =>
      exact sliceA_sound V hM (hρ a (by simp [Op.operands])) (fun b hb => by
          cases lo with
          | none => cases hb
          | some l => cases hb; exact ⟨_, rfl, hρ l (by simp [Op.operands])⟩) (fun hb => by cases lo <;> simp_all)
        (fun b hb => by
          cases hi with
          | none => cases hb
          | some l => cases hb; exact ⟨_, rfl, hρ l (by simp [Op.operands])⟩) (fun hb => by cases hi <;> simp_all) hy
  | fieldAddr t a f =>
    simp only [act] at h
    split at h
    · rename_i fd hf
      split at h
      · cases h
      · rename_i hz
        exact .valueM hM h fun y hy => fieldAddr_sound V hf hz (hρ a (by simp [Op.operands])) hy
    · cases h
  | field t a f =>
    simp only [act] at h
    split at h
    · rename_i fd hf
      split at h
      · rename_i n g hn hg
        exact .valueM hM h fun y hy => field_sound V hf hn hg (hρ a (by simp [Op.operands])) hy
      · cases h
    · cases h
  | indexAddr t a i => exact .valueM hM h fun y hy => indexAddrA_sound V hM (hρ a (by simp [Op.operands])) (hρ i (by simp [Op.operands])) hy
  | index t a i => exact .valueM hM h fun y hy => indexA_sound V (hρ a (by simp [Op.operands])) (hρ i (by simp [Op.operands])) hy
  | extract a i =>
    have ha := hρ a (by simp [Op.operands])
    simp only [act] at h
    split at h
    · rename_i vs hx
      rw [hx] at ha
      refine .valueM hM h fun y hy => ?_
      generalize ρ a = v at ha
      cases ha with
      | tup _ us hl hv =>
        have hi : i < us.size := by have := (List.getElem?_eq_some_iff.1 hy).1; omega
        exact ⟨us[i], by simp [Instr.extract, hi], hv i y _ hy (by simp [hi])⟩
    · cases h
  | call c =>
    have hargs : ∀ a ∈ c.args, AVR S w B (e a) (ρ a) := fun a ha => hρ a (by simp [Op.operands, Call.operands, ha])
    obtain ⟨callee, args, argTypes⟩ := c
    simp only at hargs
    simp only [act] at h
    have hl : ∀ (i : Nat) a v, (args.toList.map e)[i]? = some a → (args.toList.map ρ)[i]? = some v → AVR S w B a v := by
      intro i a v ha hv
      rw [List.getElem?_map] at ha hv
      obtain ⟨q, hq, rfl⟩ := Option.map_eq_some_iff.1 ha
      rw [hq] at hv
      cases hv
      exact hargs q (by have := List.mem_of_getElem? hq; simpa using this)
    have hmap : args.map ρ = (args.toList.map ρ).toArray := by apply Array.ext'; simp
    split at h
    · split at h
      · rename_i x0 t0 hx0 ht0
        have e1 : args = #[x0] := Array.ext' (by simpa using hx0)
        have e2 : argTypes = #[t0] := Array.ext' (by simpa using ht0)
        subst e1 e2
        have : execOp ρ ⟨dst, .call ⟨.builtin .len, #[x0], #[t0]⟩, type, pos, guard, after⟩ = (do pure (.value (← Builtin.len_ #[t0] type #[ρ x0])) : Sem Next) := by
          simp [execOp, resolve, invoke, builtin]
        rw [this]
        refine .valueM hM h fun y hy => ?_
        obtain ⟨n, hn, rfl⟩ := Option.map_eq_some_iff.1 hy
        exact ⟨_, lenA_sound V (hargs x0 (by simp)) hn, .d _ _ (.int ..)⟩
      · cases h
    · split at h
      · rename_i s0 x0 ts tx hx0 ht0
        have e1 : args = #[s0, x0] := Array.ext' (by simpa using hx0)
        have e2 : argTypes = #[ts, tx] := Array.ext' (by simpa using ht0)
        subst e1 e2
        have : execOp ρ ⟨dst, .call ⟨.builtin .append, #[s0, x0], #[ts, tx]⟩, type, pos, guard, after⟩ = (do pure (.value (← Builtin.append_ #[ts, tx] type #[ρ s0, ρ x0])) : Sem Next) := by
          simp [execOp, resolve, invoke, builtin]
        rw [this]
        exact append_step V hM (hF nx (by omega) (by have := appendA_next h; omega)) (hargs s0 (by simp)) (hargs x0 (by simp)) h
      · cases h
    · have : execOp ρ ⟨dst, .call ⟨.builtin .max, args, argTypes⟩, type, pos, guard, after⟩ = (do pure (.value (← Builtin.max_ argTypes type (args.toList.map ρ).toArray)) : Sem Next) := by
        simp only [execOp, resolve, invoke, builtin, pure_bind, hmap]
      rw [this]
      exact .valueM hM h fun y hy => max_sound (by simp) hl _ _ hy
    · have : execOp ρ ⟨dst, .call ⟨.builtin .min, args, argTypes⟩, type, pos, guard, after⟩ = (do pure (.value (← Builtin.min_ argTypes type (args.toList.map ρ).toArray)) : Sem Next) := by
        simp only [execOp, resolve, invoke, builtin, pure_bind, hmap]
      rw [this]
      exact .valueM hM h fun y hy => min_sound (by simp) hl _ _ hy
    · cases h
  | _ => simp [act] at h

end
end Go.Jv
