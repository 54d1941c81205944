/- Runs of operations. -/
import Derived.Test.YtdcpfmjnkcodiaaDoorJvP
namespace Go.Jv

/-- a run of operations, one behind another -/
inductive Tr (P : Program) (C : Cfg) (ops : Array Oper) : List Oper → St → List Ft → St → Prop where
  | nil (s : St) : Tr P C ops [] s [] s
  | skip (o : Oper) (rest : List Oper) (s : St) (fs : List Ft) (s' : St) (hw : wantedA ops s.regs o = some false) (h : Tr P C ops rest { s with regs := putR s.regs o.dst .undef } fs s') : Tr P C ops (o :: rest) s (noFt :: fs) s'
  | go (o : Oper) (rest : List Oper) (s : St) (v : AV) (H1 : Hs) (n1 : Nat) (fs : List Ft) (s' : St) (hw : wantedA ops s.regs o = some true) (ho : OpSound P C (ev C s) o.op s.homes s.next (v, H1, n1))
      (h : Tr P C ops rest { regs := putR s.regs o.dst v, homes := H1, next := n1 } fs s') : Tr P C ops (o :: rest) s (footA C s.next (ev C s) o.op :: fs) s'

section
variable {P : Program} {C : Cfg} {S0 L0 : Nat → Prop} {w0 : World} {S : Nat → Prop} {B : Nat → Option Pl} {H : Hs} {F : Nat → Prop} {nx : Nat} {w : World}

theorem cav_sound {v : Value} (h : v.oneCell' = true) : AVR S w B (cav v) v := by
  unfold cav
  split
  · exact .d _ _ (.int ..)
  · exact .d _ _ (.bool ..)
  · exact .d _ _ (.str ..)
  · exact .nil
  · exact .d _ _ (.cst _ h)

theorem eval_sound (hM : Mem C S0 L0 w0 S B H F w) {regs : Nat → AV} {a : Act} (hR : RegsR S w B regs a.tmps) {x : Operand} (hx : tmpsOk a.tmps.size x = true) {H' : Hs} {nx : Nat} : AVR S w B (ev C ⟨regs, H', nx⟩ x) (a.eval x) := by
  cases x with
  | tmp t => exact hR t (by simpa [tmpsOk] using hx)
  | const v => exact cav_sound (by simpa [tmpsOk] using hx)
  | global g =>
    simp only [ev, Act.eval]
    split
    · rename_i cs hg; exact .d _ _ (hM.glob g cs hg)
    · exact .bad _
  | func f => exact .d _ _ (.fn f [] #[] rfl (fun j c u hj => by simp at hj))

theorem wanted_sound {regs : Nat → AV} {tmps : Array Value} (hR : RegsR S w B regs tmps) {ops : Array Oper} (hok : ∀ o ∈ ops, operOk tmps.size o = true) {o : Oper} {b : Bool} (h : wantedA ops regs o = some b) :
    Region.wanted o (yielded ops tmps) = b := by
  unfold wantedA at h
  unfold Region.wanted
  cases hg : o.guard with
  | none => simp only [hg, Option.some.injEq] at h; simpa using h
  | some q =>
    obtain ⟨j, c⟩ := q
    simp only [hg] at h ⊢
    cases ht : (ops[j]?).bind (·.dst) with
    | none => simp [ht] at h
    | some t =>
      simp only [ht] at h
      obtain ⟨y, hy, hd⟩ := Option.bind_eq_some_iff.1 ht
      have hlt : t < tmps.size := by
        have := hok y (Array.mem_of_getElem? hy)
        simp only [operOk, hd, Bool.and_eq_true, decide_eq_true_eq] at this
        exact this.2
      have hr := hR t hlt
      have hget : tmps[t]? = some (tmps.getD t Go.undef) := by simp [Array.getElem?_eq_getElem hlt]
      split at h
      · rename_i c' hc
        rw [hc] at hr
        have hv := hr.dV.boolV
        cases h
        simp only [yielded, ht, Option.bind_some, hget, hv]
        cases c' <;> cases c <;> rfl
      · rename_i hc
        rw [hc] at hr
        cases h
        generalize tmps.getD t Go.undef = v at hr hget
        cases hr
        simp only [yielded, ht, Option.bind_some, hget]
        rfl
      · cases h

/-- where a run stands -/
structure At (C : Cfg) (S0 L0 : Nat → Prop) (w0 : World) (a0 : Act) (S : Nat → Prop) (w : World) (B : Nat → Option Pl) (regs : Nat → AV) (H : Hs) (F : Nat → Prop) (a1 : Act) (w1 : World) (S1 : Nat → Prop) (B1 : Nat → Option Pl) : Prop where
  mem : Mem C S0 L0 w0 S1 B1 H F w1
  regs : RegsR S1 w1 B1 regs a1.tmps
  size : a1.tmps.size = a0.tmps.size
  defers : a1.defers = a0.defers
  sub : ∀ b, S b → S1 b
  same : Same S w w1
  ext : Ext B B1

variable {a0 a1 : Act} {w1 : World} {S1 : Nat → Prop} {B1 : Nat → Option Pl} {regs : Nat → AV}

theorem Act.put_size (a : Act) (dst : Option Tmp) (v : Value) : (a.put dst v).tmps.size = a.tmps.size := by cases dst <;> simp [Act.put]
theorem Act.put_defers' (a : Act) (dst : Option Tmp) (v : Value) : (a.put dst v).defers = a.defers := by cases dst <;> rfl

theorem At.put (h : At C S0 L0 w0 a0 S w B regs H F a1 w1 S1 B1) (dst : Option Tmp) {x : AV} {v : Value} {w2 : World} {S2 : Nat → Prop} {B2 : Nat → Option Pl} {H2 : Hs} {F2 : Nat → Prop}
    (hv : AVR S2 w2 B2 x v) (hM : Mem C S0 L0 w0 S2 B2 H2 F2 w2) (hS : ∀ b, S1 b → S2 b) (hs : Same S1 w1 w2) (hE : Ext B1 B2) : At C S0 L0 w0 a0 S w B (putR regs dst x) H2 F2 (a1.put dst v) w2 S2 B2 :=
  ⟨hM, (h.regs.mono hS hs hE).put dst hv, (Act.put_size ..).trans h.size, (Act.put_defers' ..).trans h.defers, fun b hb => hS b (h.sub b hb), fun b hb => (hs b (h.sub b hb)).trans (h.same b hb), h.ext.trans hE⟩

theorem operOk_operand {n : Nat} {o : Oper} (h : operOk n o = true) {x : Operand} (hx : x ∈ o.op.operands) : tmpsOk n x = true := by
  simp only [operOk, Bool.and_eq_true] at h
  exact Array.all_eq_true_iff_forall_mem.1 h.1 x hx

/-- in the text's order -/
theorem Tr.wp {ops : Array Oper} (hok : ∀ o ∈ ops, operOk a0.tmps.size o = true) {Q : Exit → Act → World → Prop} {l : List Oper} {s : St} {fs : List Ft} {s' : St} (hT : Tr P C ops l s fs s') :
    ∀ (k : Nat), l = ops.toList.drop k → ∀ {a1 w1 S1 B1}, At C S0 L0 w0 a0 S w B s.regs s.homes (fun id => s.next ≤ id) a1 w1 S1 B1 →
    (∀ a2 w2 S2 B2, At C S0 L0 w0 a0 S w B s'.regs s'.homes (fun id => s'.next ≤ id) a2 w2 S2 B2 → Q .normal a2 w2) → wpOps P ops Q (List.range' k (ops.size - k)) a1 w1 := by
  induction hT with
  | nil s =>
    intro k hk a1 w1 S1 B1 hA hQ
    have : ops.size - k = 0 := by
      have := congrArg List.length hk
      simp at this; omega
    rw [this]
    exact hQ _ _ _ _ hA
  | skip o rest s fs s' hw hT ih =>
    intro k hk a1 w1 S1 B1 hA hQ
    have hlen := congrArg List.length hk
    simp only [List.length_cons, List.length_drop, Array.length_toList] at hlen
    have hget : ops[k]? = some o := by
      have : (ops.toList.drop k)[0]? = some o := by rw [← hk]; rfl
      simpa using this
    have hrest : rest = ops.toList.drop (k + 1) := by
      have := congrArg List.tail hk
      simpa using this
    obtain ⟨m, hm⟩ : ∃ m, ops.size - k = m + 1 := ⟨ops.size - k - 1, by omega⟩
    rw [hm, List.range'_succ, wpOps_cons]
    unfold wpOp
    have hwn := wanted_sound hA.regs (fun o ho => by rw [hA.size]; exact hok o ho) hw
    rw [hget]
    simp only [hwn, Bool.false_eq_true, if_false]
    have hm' : m = ops.size - (k + 1) := by omega
    rw [hm']
    exact ih (k + 1) hrest (hA.put o.dst .undef hA.mem (fun _ h => h) (fun _ _ => rfl) (Ext.refl _)) hQ
  | go o rest s v H1 n1 fs s' hw ho hT ih =>
    intro k hk a1 w1 S1 B1 hA hQ
    have hlen := congrArg List.length hk
    simp only [List.length_cons, List.length_drop, Array.length_toList] at hlen
    have hget : ops[k]? = some o := by
      have : (ops.toList.drop k)[0]? = some o := by rw [← hk]; rfl
      simpa using this
    have hrest : rest = ops.toList.drop (k + 1) := by
      have := congrArg List.tail hk
      simpa using this
    obtain ⟨m, hm⟩ : ∃ m, ops.size - k = m + 1 := ⟨ops.size - k - 1, by omega⟩
    rw [hm, List.range'_succ, wpOps_cons]
    unfold wpOp
    have hwn := wanted_sound hA.regs (fun o ho => by rw [hA.size]; exact hok o ho) hw
    rw [hget]
    simp only [hwn, if_true]
    left
    have hm' : m = ops.size - (k + 1) := by omega
    rw [hm']
    have hoo := hok o (Array.mem_of_getElem? hget)
    obtain ⟨hn, _, hS⟩ := ho
    obtain ⟨H1', hL, hS⟩ := hS (ev C s) s.homes (fun _ _ => rfl) (fun _ _ => rfl)
    have hH : H1' = H1 := funext fun id => by
      by_cases hmd : (footA C s.next (ev C s) o.op).mods id
      · exact hL.1 id hmd
      · exact (hL.2 id hmd).1.trans (hL.2 id hmd).2.symm
    subst hH
    refine hS a1 o rfl hA.mem (fun x hx => eval_sound hA.mem hA.regs (by rw [hA.size]; exact operOk_operand hoo hx)) (fun id h1 _ => h1) (fun _ id => Iff.rfl) _ Q ?_
    intro val w2 S2 B2 hv hM hS2 hs hE
    exact ih (k + 1) hrest (hA.put o.dst hv (hM.weak fun id hi => ⟨Nat.le_trans hn hi, .inr hi⟩) hS2 hs hE) hQ

end
end Go.Jv
