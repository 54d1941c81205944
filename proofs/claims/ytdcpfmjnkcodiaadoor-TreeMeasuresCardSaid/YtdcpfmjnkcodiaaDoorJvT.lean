/- What the abstract machine answers, the program answers: calls. -/
import Derived.Test.YtdcpfmjnkcodiaaDoorJvS
namespace Go.Jv

section
variable {P : Program} {C : Cfg} {S0 L0 : Nat → Prop} {w0 : World} {S : Nat → Prop} {B : Nat → Option Pl} {H : Hs} {F : Nat → Prop} {nx : Nat} {w : World}

def resF (tmps : Array Value) : ResultVar → Sem Value
  | .tmp t => pure (tmps.getD t Go.undef)
  | .cell a t => do loadVar t (← asAddr (tmps.getD a Go.undef))

def oneOr (us : Array Value) : Value := if h : us.size = 1 then us[0] else .tuple us

theorem results_eq (fn : Func) (tmps : Array Value) : results fn tmps = (do pure (oneOr (← fn.results.mapM (resF tmps)))) := rfl

theorem resL_sound (V : Valid P C) {s : St} {tmps : Array Value} (hM : Mem C S0 L0 w0 S B s.homes F w) (hR : RegsR S w B s.regs tmps) : ∀ {l : List ResultVar} {vs : List AV}, (∀ r ∈ l, resOk tmps.size r = true) → resultsA C s l = some vs →
    ∃ us : List Value, (l.mapM (resF tmps)).run P w = .ok us w ∧ us.length = vs.length ∧ ∀ (i : Nat) x u, vs[i]? = some x → us[i]? = some u → AVR S w B x u
  | [], vs, _, h => by
    simp only [resultsA, Option.some.injEq] at h
    subst h
    exact ⟨[], by simp, rfl, fun i x u hx => by simp at hx⟩
  | .tmp t :: l, vs, hok, h => by
    simp only [resultsA] at h
    obtain ⟨vs', h1, rfl⟩ := Option.map_eq_some_iff.1 h
    obtain ⟨us, h2, h3, h4⟩ := resL_sound V hM hR (fun r hr => hok r (by simp [hr])) h1
    have ht : t < tmps.size := by simpa [resOk] using hok (.tmp t) (by simp)
    refine ⟨tmps.getD t Go.undef :: us, by simp [List.mapM_cons, resF, h2], by simp [h3], fun i x u hx hu => ?_⟩
    match i with
    | 0 => simp only [List.getElem?_cons_zero, Option.some.injEq] at hx hu; subst hx hu; exact hR t ht
    | i + 1 => exact h4 i x u (by simpa using hx) (by simpa using hu)
  | .cell a t :: l, vs, hok, h => by
    simp only [resultsA] at h
    split at h
    · rename_i v vs' hl h1
      cases h
      obtain ⟨us, h2, h3, h4⟩ := resL_sound V hM hR (fun r hr => hok r (by simp [hr])) h1
      have ht : a < tmps.size := by simpa [resOk] using hok (.cell a t) (by simp)
      obtain ⟨u, hu, hv⟩ := load_sound V hM (hR a ht) hl
      have key : (resF tmps (.cell a t)).run P w = .ok u w := by
        unfold Instr.loadAt at hu
        show Sem.run P (do loadVar t (← asAddr (tmps.getD a Go.undef))) w = _
        generalize tmps.getD a Go.undef = pv at hu ⊢
        cases pv with
        | pointer o => cases o with
          | some ad => simpa [Instr.sureAddr, asAddr] using hu
          | none => simp [Instr.sureAddr, stuck] at hu
        | _ => simp [Instr.sureAddr, stuck] at hu
      refine ⟨u :: us, by simp [List.mapM_cons, key, h2], by simp [h3], fun i x u' hx hu' => ?_⟩
      match i with
      | 0 => simp only [List.getElem?_cons_zero, Option.some.injEq] at hx hu'; subst hx hu'; exact hv
      | i + 1 => exact h4 i x u' (by simpa using hx) (by simpa using hu')
    · cases h

theorem results_sound (V : Valid P C) {s : St} {tmps : Array Value} (hM : Mem C S0 L0 w0 S B s.homes F w) (hR : RegsR S w B s.regs tmps) {fn : Func} {vs : List AV} (hok : fn.results.all (resOk tmps.size) = true)
    (h : resultsA C s fn.results.toList = some vs) :
    ∃ us : List Value, (results fn tmps).run P w = .ok (oneOr us.toArray) w ∧ us.length = vs.length ∧ ∀ (i : Nat) x u, vs[i]? = some x → us[i]? = some u → AVR S w B x u := by
  obtain ⟨us, h1, h2, h3⟩ := resL_sound V hM hR (fun r hr => Array.all_eq_true_iff_forall_mem.1 hok r (by simpa using hr)) h
  refine ⟨us, ?_, h2, h3⟩
  rw [results_eq]
  have : fn.results.mapM (resF tmps) = List.toArray <$> fn.results.toList.mapM (resF tmps) := by
    rw [← List.mapM_toArray]
  rw [this]
  simp [h1]

theorem oneOr_sound {vs : List AV} {us : List Value} (hl : us.length = vs.length) (hv : ∀ (i : Nat) x u, vs[i]? = some x → us[i]? = some u → AVR S w B x u) : AVR S w B (tupA vs) (oneOr us.toArray) := by
  match vs, us, hl with
  | [v], [u], _ => exact hv 0 v u rfl rfl
  | [], [], _ => exact .tup [] #[] rfl fun j c u hj => by simp at hj
  | v :: v' :: vs, u :: u' :: us, hl =>
    have : oneOr (u :: u' :: us).toArray = .tuple (u :: u' :: us).toArray := by simp [oneOr]
    rw [this]
    exact .tup _ _ (by simpa using hl.symm) fun j c u hj hu => hv j c u hj (by simpa using hu)

/-- where a call begins that is handed trees alone -/
theorem Mem.init (hlt : ∀ b, S b → b < w.heap.size) (hg : ∀ g cs, C.glob g = some cs → VR S w (.ptr cs) (.pointer (some ⟨g, 0, none⟩))) : Mem C S (fun _ => False) w S noB (fun _ => .dead) F w :=
  ⟨fun _ => .dead, fun _ _ => rfl, fun _ _ => rfl, fun _ _ _ _ h => by simp [Home.live] at h, fun _ _ h => by simp [Home.live] at h, hlt, hg, rfl, rfl, rfl, Nat.le_refl _, fun _ _ _ => rfl, fun _ h => h,
   fun _ _ h => by simp [Home.live] at h, fun _ h => .inl h⟩

theorem tmpsOk_mono {n m : Nat} (h : n ≤ m) {x : Operand} (hx : tmpsOk n x = true) : tmpsOk m x = true := by
  cases x with
  | tmp t => simp only [tmpsOk, decide_eq_true_eq] at hx ⊢; exact Nat.lt_of_lt_of_le hx h
  | _ => exact hx

theorem operOk_mono {n m : Nat} (h : n ≤ m) {o : Oper} (ho : operOk n o = true) : operOk m o = true := by
  simp only [operOk, Bool.and_eq_true] at ho ⊢
  refine ⟨Array.all_eq_true_iff_forall_mem.2 fun x hx => tmpsOk_mono h (Array.all_eq_true_iff_forall_mem.1 ho.1 x hx), ?_⟩
  have := ho.2
  split
  · rename_i t hd; rw [hd] at this; simp only [decide_eq_true_eq] at this ⊢; exact Nat.lt_of_lt_of_le this h
  · rfl

theorem codeOk_mono {n m : Nat} (h : n ≤ m) : ∀ {c : Code}, codeOk n c = true → codeOk m c = true
  | .region _ ops _, hc => by
    simp only [codeOk] at hc ⊢
    exact Array.all_eq_true_iff_forall_mem.2 fun x hx => operOk_mono h (Array.all_eq_true_iff_forall_mem.1 hc x hx)
  | .seq a b, hc => by
    simp only [codeOk, Bool.and_eq_true] at hc ⊢
    exact ⟨codeOk_mono h hc.1, codeOk_mono h hc.2⟩
  | .cond x a b, hc => by
    simp only [codeOk, Bool.and_eq_true] at hc ⊢
    exact ⟨⟨tmpsOk_mono h hc.1.1, codeOk_mono h hc.1.2⟩, codeOk_mono h hc.2⟩
  | .block _ a, hc => by simp only [codeOk] at hc ⊢; exact codeOk_mono h hc
  | .loop a, hc => by simp only [codeOk] at hc ⊢; exact codeOk_mono h hc
  | .skip, _ => rfl
  | .ret, _ => rfl
  | .exit _, _ => rfl
  | .rangeFunc .., _ => rfl
  | .scope _, _ => rfl
  | .label _, _ => rfl
  | .goto _, _ => rfl
  | .refuse _, _ => rfl

theorem resOk_mono {n m : Nat} (h : n ≤ m) {rs : Array ResultVar} (hr : rs.all (resOk n) = true) : rs.all (resOk m) = true :=
  Array.all_eq_true_iff_forall_mem.2 fun x hx => by
    have := Array.all_eq_true_iff_forall_mem.1 hr x hx
    cases x <;> (simp only [resOk, decide_eq_true_eq] at this ⊢; exact Nat.lt_of_lt_of_le this h)

def enterAct (fn : Func) (args : Array Value) : Act := { tmps := args ++ Array.replicate (fn.ntmps - args.size) undef, defers := [] }

theorem enter_size (fn : Func) (args : Array Value) : fn.ntmps ≤ (enterAct fn args).tmps.size := by simp [enterAct]; omega

/-- a call's temporaries, as it begins -/
theorem enter_regs {fn : Func} {args : Array Value} {vs : List AV} (hs : args.size = vs.length) (hv : ∀ (i : Nat) x u, vs[i]? = some x → args[i]? = some u → AVR S w B x u) :
    RegsR S w B (fun i => if i < vs.length then vs.getD i default else .undef) (enterAct fn args).tmps := by
  intro i hi
  show AVR S w B (if i < vs.length then vs.getD i default else .undef) _
  by_cases h : i < vs.length
  · rw [if_pos h]
    have h1 : vs[i]? = some (vs.getD i default) := by simp [h]
    have h2 : args[i]? = some ((enterAct fn args).tmps.getD i Go.undef) := by
      have : i < args.size := by omega
      simp [enterAct, Array.getElem?_append_left this, this]
    exact hv i _ _ h1 h2
  · rw [if_neg h]
    have h2 : (enterAct fn args).tmps.getD i Go.undef = Go.undef := by
      have h3 : args.size ≤ i := by omega
      simp only [enterAct, Array.getD_eq_getD_getElem?, Array.getElem?_append_right h3]
      rw [Array.getElem?_replicate]
      split <;> rfl
    rw [h2]
    exact .undef

theorem callR_case (V : Valid P C) {runC' : Code → St → Option (Ex × St)} (hC : ∀ c s r, runC' c s = some r → CSound P C c s r) {f : FuncId} {vs : List AV} {H : Hs} {nx : Nat} {r : List AV × Hs × Nat}
    (h : (match C.fn f with
      | none => none
      | some F =>
        match F.body with
        | none => none
        | some code => do
          let __x ← runC' code { regs := fun i => if i < vs.length then vs.getD i default else .undef, homes := H, next := nx }
          match __x with
          | (e, s) => match e with
            | .exit _ => none
            | _ => (resultsA C s F.results.toList).map fun rs => (rs, s.homes, s.next)) = some r) : RSound P C f vs H nx r := by
  split at h
  · cases h
  · rename_i fn hfn
    obtain ⟨hf, hok, hnm⟩ := V.fn f fn hfn
    split at h
    · cases h
    · rename_i code hb
      obtain ⟨⟨e, s⟩, h1, h2⟩ := Option.bind_eq_some_iff.1 h
      obtain ⟨hn, hA⟩ := hC _ _ _ h1
      simp only [funcOk, hb, Bool.and_eq_true] at hok
      refine ⟨⟨fn, hf, by rw [hb]; rfl, hnm⟩, ?_⟩
      have key : (∀ id, e ≠ .exit id) → (resultsA C s fn.results.toList).map (fun rs => (rs, s.homes, s.next)) = some r → nx ≤ r.2.2 ∧ ∀ (S0 L0 : Nat → Prop) (w0 : World) (S : Nat → Prop) (B : Nat → Option Pl) (w : World) (args : Array Value), Mem C S0 L0 w0 S B H (fun id => nx ≤ id) w →
          args.size = vs.length → (∀ (i : Nat) x u, vs[i]? = some x → args[i]? = some u → AVR S w B x u) →
          Calls P f args w (Rets fun v w1 => ∃ S1 B1, AVR S1 w1 B1 (tupA r.1) v ∧ Mem C S0 L0 w0 S1 B1 r.2.1 (fun id => r.2.2 ≤ id) w1 ∧ (∀ b, S b → S1 b) ∧ Same S w w1 ∧ Ext B B1) := by
        intro hne h2
        obtain ⟨rs, h3, rfl⟩ := Option.map_eq_some_iff.1 h2
        refine ⟨hn, fun S0 L0 w0 S B w args hM hs hv => calls_of_wp hf hb ?_⟩
        refine (hA (a0 := enterAct fn args) (a1 := enterAct fn args) (w := w) (S := S) (B := B) (codeOk_mono (enter_size ..) hok.1) ⟨hM, enter_regs hs hv, rfl, rfl, fun _ h => h, fun _ _ => rfl, Ext.refl _⟩ _ ?_).1
        intro a2 w2 S2 B2 hA2
        obtain ⟨us, h4, h5, h6⟩ := results_sound V hA2.mem hA2.regs (resOk_mono (by rw [hA2.size]; exact enter_size ..) hok.2) h3
        have fin : a2.defers = [] ∧ ∃ v, (results fn a2.tmps).run P w2 = .ok v w2 ∧ Rets (fun v w1 => ∃ S1 B1, AVR S1 w1 B1 (tupA rs) v ∧ Mem C S0 L0 w0 S1 B1 s.homes (fun id => s.next ≤ id) w1 ∧ (∀ b, S b → S1 b) ∧ Same S w w1 ∧ Ext B B1) (.returned v) w2 :=
          ⟨hA2.defers, _, h4, S2, B2, oneOr_sound h5 h6, hA2.mem, hA2.sub, hA2.same, hA2.ext⟩
        cases e with
        | exit id => exact absurd rfl (hne id)
        | normal => exact fin
        | ret => exact fin
      simp only at h2
      split at h2
      · cases h2
      · rename_i hne
        exact key (fun id e => hne id e) h2

theorem callD_case (V : Valid P C) (hX : ∀ f xs rs, C.ext f xs = some rs → DSound P C f xs rs) {runC' : Code → St → Option (Ex × St)} (hC : ∀ c s r, runC' c s = some r → CSound P C c s r) {f : FuncId} {xs rs : List Dat}
    (h : (match C.ext f xs with
      | some rs => some rs
      | none =>
        match C.fn f with
        | none => none
        | some F =>
          match F.body with
          | none => none
          | some code => do
            let __x ← runC' code { regs := fun i => if i < xs.length then .d (xs.getD i default) else .undef, homes := fun _ => .dead, next := 0 }
            match __x with
            | (e, s) => match e with
              | .exit _ => none
              | _ => match resultsA C s F.results.toList with
                | none => none
                | some vs => (frzAll s.homes vs).map (·.1)) = some rs) : DSound P C f xs rs := by
  split at h
  · rename_i rs' hx
    cases h
    exact hX f xs rs hx
  · split at h
    · cases h
    · rename_i fn hfn
      obtain ⟨hf, hok, hnm⟩ := V.fn f fn hfn
      split at h
      · cases h
      · rename_i code hb
        obtain ⟨⟨e, s⟩, h1, h2⟩ := Option.bind_eq_some_iff.1 h
        obtain ⟨hn, hA⟩ := hC _ _ _ h1
        simp only [funcOk, hb, Bool.and_eq_true] at hok
        refine ⟨⟨fn, hf, by rw [hb]; rfl, hnm⟩, fun S w args hlt hg hs hv => calls_of_wp hf hb ?_⟩
        have hregs : RegsR S w noB (fun i => if i < xs.length then AV.d (xs.getD i default) else .undef) (enterAct fn args).tmps := by
          have := enter_regs (S := S) (w := w) (B := noB) (fn := fn) (args := args) (vs := xs.map .d) (by simpa using hs) (fun i x u hx hu => by
            rw [List.getElem?_map] at hx
            obtain ⟨y, hy, rfl⟩ := Option.map_eq_some_iff.1 hx
            exact .d _ _ (hv i y u hy hu))
          intro i hi
          have h3 := this i hi
          simp only [List.length_map] at h3
          show AVR S w noB (if i < xs.length then AV.d (xs.getD i default) else .undef) _
          by_cases hlt : i < xs.length
          · rw [if_pos hlt]
            rw [if_pos hlt] at h3
            have : (xs.map AV.d).getD i default = AV.d (xs.getD i default) := by simp [hlt]
            rwa [this] at h3
          · rw [if_neg hlt]
            rwa [if_neg hlt] at h3
        refine (hA (a0 := enterAct fn args) (a1 := enterAct fn args) (w := w) (S := S) (B := noB) (codeOk_mono (enter_size ..) hok.1) ⟨Mem.init hlt hg, hregs, rfl, rfl, fun _ h => h, fun _ _ => rfl, Ext.refl _⟩ _ ?_).1
        intro a2 w2 S2 B2 hA2
        have fin : (∀ id, e ≠ .exit id) → (match resultsA C s fn.results.toList with | none => none | some vs => (frzAll s.homes vs).map (·.1)) = some rs →
            a2.defers = [] ∧ ∃ v, (results fn a2.tmps).run P w2 = .ok v w2 ∧ Rets (fun v w1 => ∃ S1, Grew S w S1 w1 ∧ AVR S1 w1 noB (tupA (rs.map .d)) v) (.returned v) w2 := by
          intro _ h2
          split at h2
          · cases h2
          · rename_i vs h3
            obtain ⟨⟨rs', H1⟩, h4, he⟩ := Option.map_eq_some_iff.1 h2
            simp only at he
            subst he
            obtain ⟨us, h5, h6, h7⟩ := results_sound V hA2.mem hA2.regs (resOk_mono (by rw [hA2.size]; exact enter_size ..) hok.2) h3
            obtain ⟨S3, hM3, hS3, h8, h9⟩ := frzL_sound 4 hA2.mem h6 h7 h4
            refine ⟨hA2.defers, _, h5, S3, ?_, oneOr_sound (by simpa using h8) (fun i x u hx hu => ?_)⟩
            · exact ⟨fun b hb => hS3 b (hA2.sub b hb), fun b hb => (hM3.sIn b hb).imp id (fun h => h.resolve_left (fun h => h)), hM3.lt, fun b hb => hM3.keep b hb (fun h => h), hM3.size, hM3.os, hM3.tape, hM3.output⟩
            · rw [List.getElem?_map] at hx
              obtain ⟨y, hy, rfl⟩ := Option.map_eq_some_iff.1 hx
              exact .d _ _ (h9 i y u hy hu)
        simp only at h2
        split at h2
        · cases h2
        · rename_i hne
          cases e with
          | exit id => exact absurd rfl (hne id)
          | normal => exact fin (fun id h => by cases h) h2
          | ret => exact fin (fun id h => by cases h) h2

/-- WHAT THE ABSTRACT MACHINE ANSWERS, THE PROGRAM ANSWERS. -/
theorem sound (V : Valid P C) (hX : ∀ f xs rs, C.ext f xs = some rs → DSound P C f xs rs) : ∀ (f : FuncId) (xs rs : List Dat), callD C f xs = some rs → DSound P C f xs rs :=
  (callD.mutual_partial_correctness C (DSound P C) (CSound P C) (fun ops l s r => Tr P C ops l s r.1 r.2) (OpSound P C) (RSound P C) (fun ops l s r => ∃ fs, Tr P C ops l s fs r)
    (fun _ hC f xs r h => callD_case V hX hC h)
    (fun _ _ _ hC hF hO c s r h => runC_case V hC hF hO h)
    (fun runFts opV hF hV ops l s r h => by
      split at h
      · cases h; exact .nil s
      · rename_i o rest
        split at h
        · cases h
        · rename_i hw
          obtain ⟨⟨fs, s'⟩, h1, h2⟩ := Option.bind_eq_some_iff.1 h
          cases h2
          exact .skip o rest s fs s' hw (hF _ _ _ _ h1)
        · rename_i hw
          obtain ⟨⟨v, H1, n1⟩, h1, h2⟩ := Option.bind_eq_some_iff.1 h
          obtain ⟨⟨fs, s'⟩, h3, h4⟩ := Option.bind_eq_some_iff.1 h2
          cases h4
          exact .go o rest s v H1 n1 fs s' hw (hV _ _ _ _ _ h1) (hF _ _ _ _ h3))
    (fun _ _ hD hR e o H nx r h => opV_case V hD hR h)
    (fun _ hC f vs H nx r h => callR_case V hC h)
    (fun opV runOps hV hO ops l s r h => by
      split at h
      · cases h; exact ⟨[], .nil s⟩
      · rename_i o rest
        split at h
        · cases h
        · rename_i hw
          obtain ⟨fs, hT⟩ := hO _ _ _ _ h
          exact ⟨_, .skip o rest s fs r hw hT⟩
        · rename_i hw
          obtain ⟨⟨v, H1, n1⟩, h1, h2⟩ := Option.bind_eq_some_iff.1 h
          obtain ⟨fs, hT⟩ := hO _ _ _ _ h2
          exact ⟨_, .go o rest s v H1 n1 fs r hw (hV _ _ _ _ _ h1) hT⟩)).1

end
end Go.Jv
