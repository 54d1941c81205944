/- What the abstract machine answers, the program answers. -/
import Derived.Test.YtdcpfmjnkcodiaaDoorJvR
namespace Go.Jv

def exitOf : Ex → Exit
  | .normal => .normal
  | .exit id => .exit id
  | .ret => .ret

/-- a loop, from its body's start on -/
def LoopWp (P : Program) (c : Code) (Q : Exit → Act → World → Prop) (a : Act) (w : World) : Prop :=
  ∀ (b : Frame) (k : List Item) (cs : List Frame), ∃ e a' w', Q e a' w' ∧ Arrives P (lone (b.at a (.code c :: .inLoop c :: k)) cs w) b k cs e a' w'

theorem LoopWp.wp {P : Program} {c : Code} {Q : Exit → Act → World → Prop} {a : Act} {w : World} (h : LoopWp P c Q a w) : (Code.loop c).wp P Q a w :=
  fun b k cs => let ⟨e, a', w', hq, harr⟩ := h b k cs; ⟨e, a', w', hq, .of_steps (.one step_loop) harr⟩

theorem LoopWp.round {P : Program} {c : Code} {Q : Exit → Act → World → Prop} {a : Act} {w : World} (h : c.wp P (Exit.then (LoopWp P c Q) Q) a w) : LoopWp P c Q a w := by
  intro b k cs
  obtain ⟨e, a₁, w₁, hq, harr⟩ := h b (.inLoop c :: k) cs
  cases e with
  | normal =>
    obtain ⟨e₂, a₂, w₂, hq₂, harr₂⟩ := hq b k cs
    exact ⟨e₂, a₂, w₂, hq₂, .of_steps (Steps.trans harr (.one step_inLoop)) harr₂⟩
  | exit id => exact ⟨_, a₁, w₁, hq, .pass (x := .inLoop c) rfl (fun _ _ => .inl (by simp)) harr⟩
  | goto l => exact ⟨_, a₁, w₁, hq, .pass (x := .inLoop c) rfl (fun _ _ => .inl (by simp)) harr⟩
  | ret => exact ⟨_, a₁, w₁, hq, .pass (x := .inLoop c) rfl (fun _ _ => .inl (by simp)) harr⟩
  | panic ch => exact ⟨_, a₁, w₁, hq, .pass (x := .inLoop c) rfl (fun _ _ => .inl (by simp)) harr⟩
  | outgrown => exact ⟨_, a₁, w₁, hq, .pass (x := .inLoop c) rfl (fun _ _ => .inl (by simp)) harr⟩

def CSound (P : Program) (C : Cfg) (c : Code) (s : St) (r : Ex × St) : Prop :=
  s.next ≤ r.2.next ∧ ∀ {S0 L0 : Nat → Prop} {w0 : World} {a0 : Act} {S : Nat → Prop} {w : World} {B : Nat → Option Pl} {a1 : Act} {w1 : World} {S1 : Nat → Prop} {B1 : Nat → Option Pl},
    codeOk a0.tmps.size c = true → At C S0 L0 w0 a0 S w B s.regs s.homes (fun id => s.next ≤ id) a1 w1 S1 B1 → ∀ (Q : Exit → Act → World → Prop),
    (∀ a2 w2 S2 B2, At C S0 L0 w0 a0 S w B r.2.regs r.2.homes (fun id => r.2.next ≤ id) a2 w2 S2 B2 → Q (exitOf r.1) a2 w2) →
    c.wp P Q a1 w1 ∧ ∀ body, c = .loop body → LoopWp P body Q a1 w1

section
variable {P : Program} {C : Cfg} {S0 L0 : Nat → Prop} {w0 : World} {S : Nat → Prop} {B : Nat → Option Pl} {H : Hs} {F : Nat → Prop} {nx : Nat} {w : World}

theorem Tr.next {ops : Array Oper} {l : List Oper} {s : St} {fs : List Ft} {s' : St} (hT : Tr P C ops l s fs s') : s.next ≤ s'.next := by
  induction hT with
  | nil => exact Nat.le_refl _
  | skip _ _ _ _ _ _ _ ih => exact ih
  | go o rest s v H1 n1 fs s' hw ho h ih => exact Nat.le_trans ho.1 ih

/-- a region that draws its order -/
theorem draw_case (V : Valid P C) {id : Nat} {ops : Array Oper} {s s' : St} {fs : List Ft} (hT : Tr P C ops ops.toList s fs s') (hp : pairsOk fs (unord ops.toList) = true) (hd : drawStat ops = true)
    {a0 a1 : Act} {w1 : World} {S1 : Nat → Prop} {B1 : Nat → Option Pl} (hok : codeOk a0.tmps.size (.region id ops true) = true) (hA : At C S0 L0 w0 a0 S w B s.regs s.homes (fun id => s.next ≤ id) a1 w1 S1 B1)
    (Q : Exit → Act → World → Prop) (hQ : ∀ a2 w2 S2 B2, At C S0 L0 w0 a0 S w B s'.regs s'.homes (fun id => s'.next ≤ id) a2 w2 S2 B2 → Q .normal a2 w2) : (Code.region id ops true).wp P Q a1 w1 := by
  obtain ⟨st, h0, hn, hs⟩ := hT.trace
  have hs' : ∀ (i : Nat) o, ops[i]? = some o → StepT P C ops st fs i o := fun i o h => hs i o (by simpa using h)
  simp only [drawStat, Bool.and_eq_true] at hd
  have hn' : st ops.size = s' := by simpa using hn
  subst hn'
  subst h0
  refine wp_region_any V.mixed ?_
  have hA' : At C S0 L0 w0 a0 S w B (st 0).regs (st 0).homes (fun id => (st 0).next ≤ id) a1 w1.drew S1 B1 :=
    ⟨hA.mem.drew, hA.regs.mono (fun _ h => h) (fun _ _ => rfl) (Ext.refl _), hA.size, hA.defers, hA.sub, hA.same, hA.ext⟩
  refine any_order hs' hp hd.2 hd.1 (fun o ho => ?_) hQ ops.size _ (by simp) (Nat.le_trans List.countP_le_length (by simp)) (fun i o h => ?_) ?_ hA'
  · simp only [codeOk] at hok
    exact Array.all_eq_true_iff_forall_mem.1 hok o ho
  · exfalso
    by_cases hi : i < ops.size <;> simp [hi] at h
  · have hno : ∀ i, ¬ (Array.replicate ops.size false).getD i false = true := fun i h => by
      by_cases hi : i < ops.size <;> simp [hi] at h
    refine ⟨fun t k hk h1 _ => ?_, fun id k hk h1 _ => ?_, fun id => ?_⟩
    · exact (run_stable (g := fun k => (st k).regs t) (p := fun j => Writes ops j t) (fun j hj hw => step_regs hs' hj hw) 0 k (Nat.zero_le _) hk (fun j _ hj hw => hno j (h1 j hj hw))).symm
    · exact (run_stable (g := fun k => (st k).homes id) (p := fun j => Mods fs j id) (fun j hj hw => step_homes hs' hj hw) 0 k (Nat.zero_le _) hk (fun j _ hj hw => hno j (h1 j hj hw))).symm
    · exact ⟨fun h => ⟨h, fun j _ hj => absurd hj (hno j)⟩, fun h => h.1⟩

theorem pairsOk_nil (fs : List Ft) {ps : List (Nat × Nat)} (h : ps.isEmpty = true) : pairsOk fs ps = true := by
  cases ps with
  | nil => rfl
  | cons => cases h

theorem runC_case (V : Valid P C) {runC' : Code → St → Option (Ex × St)} {runFts' : Array Oper → List Oper → St → Option (List Ft × St)} {runOps' : Array Oper → List Oper → St → Option St}
    (hC : ∀ c s r, runC' c s = some r → CSound P C c s r) (hF : ∀ ops l s r, runFts' ops l s = some r → Tr P C ops l s r.1 r.2) (hO : ∀ ops l s r, runOps' ops l s = some r → ∃ fs, Tr P C ops l s fs r)
    {c : Code} {s : St} {r : Ex × St}
    (h : (match c with
      | .skip => some (.normal, s)
      | .ret => some (.ret, s)
      | .exit id => some (.exit id, s)
      | .region _ ops draw =>
        if draw = true then
          if drawStat ops = true then
            if (unord ops.toList).isEmpty = true then do
              let s' ← runOps' ops ops.toList s
              some (.normal, s')
            else do
              let __x ← runFts' ops ops.toList s
              match __x with
              | (fs, s') => if pairsOk fs (unord ops.toList) = true then some (.normal, s') else none
          else none
        else do
          let s' ← runOps' ops ops.toList s
          some (.normal, s')
      | .seq a b => do
        let __x ← runC' a s
        match __x with
        | (e, s1) => match e with
          | .normal => runC' b s1
          | e => some (e, s1)
      | .cond x a b =>
        match ev C s x with
        | .d (.bool true) => runC' a s
        | .d (.bool false) => runC' b s
        | _ => none
      | .block id a => do
        let __x ← runC' a s
        match __x with
        | (e, s1) => match e with
          | .exit id' => if id' = id then some (.normal, s1) else some (.exit id', s1)
          | e => some (e, s1)
      | .loop a => do
        let __x ← runC' a s
        match __x with
        | (e, s1) => match e with
          | .normal => runC' (.loop a) s1
          | e => some (e, s1)
      | _ => none) = some r) : CSound P C c s r := by
  split at h
  · cases h
    exact ⟨Nat.le_refl _, fun hok hA Q hQ => ⟨wp_skip (hQ _ _ _ _ hA), fun _ h => by cases h⟩⟩
  · cases h
    exact ⟨Nat.le_refl _, fun hok hA Q hQ => ⟨wp_ret (hQ _ _ _ _ hA), fun _ h => by cases h⟩⟩
  · cases h
    exact ⟨Nat.le_refl _, fun hok hA Q hQ => ⟨wp_exit (hQ _ _ _ _ hA), fun _ h => by cases h⟩⟩
  · rename_i id ops draw
    split at h
    · rename_i hdr
      subst hdr
      split at h
      · rename_i hst
        split at h
        · rename_i hun
          obtain ⟨s', h1, h2⟩ := Option.bind_eq_some_iff.1 h
          cases h2
          obtain ⟨fs, hT⟩ := hO _ _ _ _ h1
          exact ⟨hT.next, fun hok hA Q hQ => ⟨draw_case V hT (pairsOk_nil fs hun) hst hok hA Q hQ, fun _ h => by cases h⟩⟩
        · obtain ⟨⟨fs, s'⟩, h1, h2⟩ := Option.bind_eq_some_iff.1 h
          simp only at h2
          split at h2
          · rename_i hp
            cases h2
            have hT := hF _ _ _ _ h1
            exact ⟨hT.next, fun hok hA Q hQ => ⟨draw_case V hT hp hst hok hA Q hQ, fun _ h => by cases h⟩⟩
          · cases h2
      · cases h
    · rename_i hdr
      have hdr : draw = false := by simpa using hdr
      subst hdr
      obtain ⟨s', h1, h2⟩ := Option.bind_eq_some_iff.1 h
      cases h2
      obtain ⟨fs, hT⟩ := hO _ _ _ _ h1
      refine ⟨hT.next, fun hok hA Q hQ => ⟨wp_region ?_, fun _ h => by cases h⟩⟩
      have := hT.wp (fun o ho => by simp only [codeOk] at hok; exact Array.all_eq_true_iff_forall_mem.1 hok o ho) (Q := Q) 0 (by simp) hA hQ
      rw [List.range_eq_range']
      simpa using this
  · rename_i a b
    obtain ⟨⟨e, s1⟩, h1, h2⟩ := Option.bind_eq_some_iff.1 h
    obtain ⟨hn1, hA1⟩ := hC _ _ _ h1
    simp only at h2
    split at h2
    · obtain ⟨hn2, hA2⟩ := hC _ _ _ h2
      refine ⟨Nat.le_trans hn1 hn2, fun hok hA Q hQ => ⟨wp_seq ?_, fun _ h => by cases h⟩⟩
      simp only [codeOk, Bool.and_eq_true] at hok
      exact (hA1 hok.1 hA _ fun a2 w2 S2 B2 hA' => (hA2 hok.2 hA' Q hQ).1).1
    · rename_i hne
      cases h2
      refine ⟨hn1, fun hok hA Q hQ => ⟨wp_seq ?_, fun _ h => by cases h⟩⟩
      simp only [codeOk, Bool.and_eq_true] at hok
      refine (hA1 hok.1 hA _ fun a2 w2 S2 B2 hA' => ?_).1
      have := hQ a2 w2 S2 B2 hA'
      cases e with
      | normal => exact absurd rfl hne
      | _ => exact this
  · rename_i x a b
    split at h
    · rename_i hx
      obtain ⟨hn1, hA1⟩ := hC _ _ _ h
      refine ⟨hn1, fun hok hA Q hQ => ⟨?_, fun _ h => by cases h⟩⟩
      simp only [codeOk, Bool.and_eq_true] at hok
      have hv := eval_sound (x := x) hA.mem hA.regs (by rw [hA.size]; exact hok.1.1) (H' := s.homes) (nx := s.next)
      rw [show (⟨s.regs, s.homes, s.next⟩ : St) = s from rfl, hx] at hv
      exact wp_cond_true hv.dV.boolV (hA1 hok.1.2 hA Q hQ).1
    · rename_i hx
      obtain ⟨hn1, hA1⟩ := hC _ _ _ h
      refine ⟨hn1, fun hok hA Q hQ => ⟨?_, fun _ h => by cases h⟩⟩
      simp only [codeOk, Bool.and_eq_true] at hok
      have hv := eval_sound (x := x) hA.mem hA.regs (by rw [hA.size]; exact hok.1.1) (H' := s.homes) (nx := s.next)
      rw [show (⟨s.regs, s.homes, s.next⟩ : St) = s from rfl, hx] at hv
      exact wp_cond_false hv.dV.boolV (hA1 hok.2 hA Q hQ).1
    · cases h
  · rename_i id a
    obtain ⟨⟨e, s1⟩, h1, h2⟩ := Option.bind_eq_some_iff.1 h
    obtain ⟨hn1, hA1⟩ := hC _ _ _ h1
    simp only at h2
    split at h2
    · rename_i id'
      split at h2
      · rename_i hid
        cases h2
        refine ⟨hn1, fun hok hA Q hQ => ⟨wp_block (hA1 (by simpa [codeOk] using hok) hA _ fun a2 w2 S2 B2 hA' => ?_).1, fun _ h => by cases h⟩⟩
        simp only [exitOf, Exit.inBlock, hid, if_true]
        exact hQ a2 w2 S2 B2 hA'
      · rename_i hid
        cases h2
        refine ⟨hn1, fun hok hA Q hQ => ⟨wp_block (hA1 (by simpa [codeOk] using hok) hA _ fun a2 w2 S2 B2 hA' => ?_).1, fun _ h => by cases h⟩⟩
        simp only [exitOf, Exit.inBlock, hid, if_false]
        exact hQ a2 w2 S2 B2 hA'
    · rename_i hne
      cases h2
      refine ⟨hn1, fun hok hA Q hQ => ⟨wp_block (hA1 (by simpa [codeOk] using hok) hA _ fun a2 w2 S2 B2 hA' => ?_).1, fun _ h => by cases h⟩⟩
      have := hQ a2 w2 S2 B2 hA'
      cases e with
      | exit id' => exact absurd rfl (hne id')
      | _ => exact this
  · rename_i a
    obtain ⟨⟨e, s1⟩, h1, h2⟩ := Option.bind_eq_some_iff.1 h
    obtain ⟨hn1, hA1⟩ := hC _ _ _ h1
    simp only at h2
    have fin : ∀ {a1 : Act} {w1 : World} {Q : Exit → Act → World → Prop}, LoopWp P a Q a1 w1 → (Code.loop a).wp P Q a1 w1 ∧ ∀ body, Code.loop a = .loop body → LoopWp P body Q a1 w1 :=
      fun h => ⟨h.wp, fun body hb => by cases hb; exact h⟩
    split at h2
    · obtain ⟨hn2, hA2⟩ := hC _ _ _ h2
      refine ⟨Nat.le_trans hn1 hn2, fun hok hA Q hQ => fin (.round ?_)⟩
      exact (hA1 (by simpa [codeOk] using hok) hA _ fun a2 w2 S2 B2 hA' => (hA2 hok hA' Q hQ).2 a rfl).1
    · rename_i hne
      cases h2
      refine ⟨hn1, fun hok hA Q hQ => fin (.round ?_)⟩
      refine (hA1 (by simpa [codeOk] using hok) hA _ fun a2 w2 S2 B2 hA' => ?_).1
      have := hQ a2 w2 S2 B2 hA'
      cases e with
      | normal => exact absurd rfl hne
      | _ => exact this
  · cases h

end
end Go.Jv
