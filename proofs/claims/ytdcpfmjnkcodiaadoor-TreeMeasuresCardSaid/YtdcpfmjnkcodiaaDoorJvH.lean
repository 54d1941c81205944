/- A value shown as a tree: for the moment, or for good. -/
import Derived.Test.YtdcpfmjnkcodiaaDoorJvG
namespace Go.Jv

section
variable {P : Program} {C : Cfg} {S0 L0 : Nat → Prop} {w0 : World} {S : Nat → Prop} {B : Nat → Option Pl} {H : Hs} {F : Nat → Prop} {nx : Nat} {w : World}

/-- the blocks that live homes lie in -/
def Lv (B : Nat → Option Pl) (H : Hs) (b : Nat) : Prop := ∃ id p, (H id).live = true ∧ B id = some p ∧ p.blk = b

theorem win_length {xs : List Dat} {lo hi : Nat} (h1 : lo ≤ hi) (h2 : hi ≤ xs.length) : (win xs lo hi).length = hi - lo := by
  simp [win]; omega
theorem win_get {xs : List Dat} {lo hi i : Nat} {x : Dat} (h : (win xs lo hi)[i]? = some x) : xs[lo + i]? = some x ∧ i < hi - lo := by
  unfold win at h
  rw [List.getElem?_take] at h
  split at h
  · rw [List.getElem?_drop] at h; rename_i hi'; exact ⟨h, hi'⟩
  · cases h

/-- a part of a row, as a tree -/
theorem RowR.lst {T : Nat → Prop} {p : Pl} {arr : Array Value} {e : TypeId} {fr : Nat × Nat} {xs : List Dat} (h : RowR S w p arr xs) (hb : w.heap[p.blk]? = some (.cells arr e fr)) (hT : T p.blk) (hS : ∀ b, S b → T b)
    {lo hi : Nat} (h1 : lo ≤ hi) (h2 : hi ≤ xs.length) (off : Nat) (hoff : off = lo * p.sz ∨ lo = hi) (c : Nat) (hc : hi - lo ≤ c) (hm : c ≤ maxLen) :
    VR T w (.lst (win xs lo hi)) (.slice (some ⟨p.blk, off, none⟩) (hi - lo) c) := by
  have hwl := win_length h1 h2
  have key := VR.lst (S := T) (w := w) (win xs lo hi) p.blk off c p.sz (fun i j => arr.getD ((lo + i) * p.sz + j) Go.undef) hT (by omega) hm
    (fun i x hx => h.2.2.2.1 (lo + i) x (win_get hx).1)
    (fun i j hi' hj => by
      have hx : (win xs lo hi)[i]? = some ((win xs lo hi)[i]) := List.getElem?_eq_getElem hi'
      obtain ⟨hx1, hlt⟩ := win_get hx
      have hoff' : off = lo * p.sz := by rcases hoff with h | h <;> omega
      obtain ⟨he, hz, hle⟩ := h.elem hx1
      have hidx : off + (i * p.sz + j) = (lo + i) * p.sz + j := by rw [hoff', Nat.add_mul]; omega
      have hsz : (lo + i) * p.sz + j < arr.size := by omega
      simp [World.cell?, hb, hidx, Array.getD_eq_getD_getElem?, hsz])
    (fun i j hi' hj => by
      have hx : (win xs lo hi)[i]? = some ((win xs lo hi)[i]) := List.getElem?_eq_getElem hi'
      obtain ⟨hx1, hlt⟩ := win_get hx
      have hz := h.2.2.2.1 _ _ hx1
      obtain ⟨u, hu1, hu2, hu3⟩ := h.2.2.2.2 _ _ j _ hx1 (List.getElem?_eq_getElem (by omega))
      simpa [Array.getD_eq_getD_getElem?, hu1] using hu2)
    (fun i x j c hx hj => by
      obtain ⟨hx1, hlt⟩ := win_get hx
      obtain ⟨u, hu1, hu2, hu3⟩ := h.2.2.2.2 _ _ j _ hx1 hj
      have : arr.getD ((lo + i) * p.sz + j) Go.undef = u := by simp [Array.getD_eq_getD_getElem?, hu1]
      rw [this]
      exact hu3.mono hS (fun _ _ => rfl))
  rw [hwl] at key
  exact key

theorem AVR.slCases {id lo hi : Nat} {v : Value} (h : AVR S w B (.sl id lo hi) v) :
    (lo = 0 ∧ hi = 0 ∧ v = .slice none 0 0) ∨ ∃ p off c, B id = some p ∧ v = .slice (some ⟨p.blk, off, none⟩) (hi - lo) c ∧ lo ≤ hi ∧ hi - lo ≤ c ∧ c ≤ maxLen ∧ (off = lo * p.sz ∨ lo = hi) ∧ (lo = 0 → off = 0 ∧ c = p.cap ∧ hi ≤ p.cap) := by
  cases h with
  | slz => exact .inl ⟨rfl, rfl, rfl⟩
  | sl _ _ _ p hp h1 h2 h3 hm => exact .inr ⟨p, _, _, hp, rfl, h1, by omega, by omega, .inl rfl, fun e => by subst e; simp [h2]⟩
  | sle _ _ off c p hp h hm => exact .inr ⟨p, off, c, hp, by simp, Nat.le_refl _, by omega, hm, .inr rfl, fun e => by omega⟩

theorem CellsD.ptr {T : Nat → Prop} {cs : List Dat} {b : Nat} {arr : Array Value} {e : TypeId} {fr : Nat × Nat} (hc : CellsD T w cs arr.toList) (hb : w.heap[b]? = some (.cells arr e fr)) (hT : T b) (off : Nat) :
    VR T w (.ptr (cs.drop off)) (.pointer (some ⟨b, off, none⟩)) := by
  have hl := hc.1
  refine .ptr _ b off (fun j => arr.getD (off + j) Go.undef) hT (fun j hj => ?_) (fun j hj => ?_) (fun j c hj => ?_)
  · simp only [List.length_drop] at hj
    have : off + j < arr.size := by simp at hl; omega
    simp [World.cell?, hb, Array.getD_eq_getD_getElem?, this]
  · simp only [List.length_drop] at hj
    have h1 : off + j < arr.size := by simp at hl; omega
    have h2 : off + j < cs.length := by omega
    have := (hc.2 (off + j) _ arr[off + j] (List.getElem?_eq_getElem h2) (by simp [h1])).1
    simpa [Array.getD_eq_getD_getElem?, h1] using this
  · rw [List.getElem?_drop] at hj
    have h2 : off + j < cs.length := (List.getElem?_eq_some_iff.1 hj).1
    have h1 : off + j < arr.size := by simp at hl; omega
    have := (hc.2 (off + j) c arr[off + j] hj (by simp [h1])).2
    simpa [Array.getD_eq_getD_getElem?, h1] using this

theorem seeAll_get {f : AV → Option Dat} : ∀ {cs : List AV} {xs : List Dat}, seeAll f cs = some xs → cs.length = xs.length ∧ ∀ (j : Nat) c, cs[j]? = some c → ∃ x, xs[j]? = some x ∧ f c = some x
  | [], xs, h => by simp [seeAll] at h; subst h; exact ⟨rfl, fun j c hj => by simp at hj⟩
  | c :: cs, xs, h => by
    simp only [seeAll] at h
    split at h
    · rename_i x xs0 h1 h2
      cases h
      obtain ⟨hl, hv⟩ := seeAll_get h2
      refine ⟨by simp [hl], fun j c' hj => ?_⟩
      match j with
      | 0 => simp at hj; subst hj; exact ⟨x, rfl, h1⟩
      | j + 1 => simpa using hv j c' (by simpa using hj)
    · cases h

theorem see_sound (hM : Mem C S0 L0 w0 S B H F w) : ∀ (n : Nat) {v : AV} {val : Value} {x : Dat}, AVR S w B v val → see n H v = some x → VR (fun b => S b ∨ Lv B H b) w x val
  | 0, v, val, x, _, h => by simp [see] at h
  | n + 1, v, val, x, hv, h => by
    have ih := fun {v : AV} {val : Value} {x : Dat} => see_sound hM n (v := v) (val := val) (x := x)
    have cells : ∀ {cs : List AV} {us : List Value} {xs : List Dat}, CellsA S w B cs us → seeAll (see n H) cs = some xs → CellsD (fun b => S b ∨ Lv B H b) w xs us := by
      intro cs us xs hc hs
      obtain ⟨hl, hg⟩ := seeAll_get hs
      refine ⟨by rw [← hl, hc.1], fun j x u hj hu => ?_⟩
      have hjl : j < cs.length := by rw [hl]; exact (List.getElem?_eq_some_iff.1 hj).1
      obtain ⟨x', hx', hsee⟩ := hg j _ (List.getElem?_eq_getElem hjl)
      rw [hj] at hx'
      cases hx'
      have := hc.2 j _ u (List.getElem?_eq_getElem hjl) hu
      exact ⟨this.1, ih this.2 hsee⟩
    cases v with
    | d x0 => simp [see] at h; subst h; cases hv with | d _ _ hv => exact hv.mono (fun _ hb => .inl hb) (fun _ _ => rfl)
    | nil => simp [see] at h; subst h; cases hv; exact .nil
    | sl id lo hi =>
      simp only [see] at h
      have hh := hM.homes id
      cases hH : H id with
      | own z xs =>
        simp only [hH] at h hh
        split at h
        · rename_i hc
          cases h
          rcases hv.slCases with ⟨rfl, rfl, rfl⟩ | ⟨p, off, c, hp, rfl, h1, h2, h3, h4, _⟩
          · simp only [win, List.drop_zero, Nat.sub_self, List.take_zero]; exact .nil
          · cases hh with
            | ownz _ hn => rw [hn] at hp; cases hp
            | own _ q arr e hq hb hr =>
              obtain rfl : q = p := by rw [hq] at hp; exact Option.some.inj hp
              exact hr.lst hb (.inr ⟨id, q, by rw [hH]; rfl, hq, rfl⟩) (fun _ hb => .inl hb) hc.1 hc.2 off h4 c h2 h3
        · cases h
      | imm z xs =>
        simp only [hH] at h hh
        split at h
        · rename_i hc
          cases h
          rcases hv.slCases with ⟨rfl, rfl, rfl⟩ | ⟨p, off, c, hp, rfl, h1, h2, h3, h4, _⟩
          · simp only [win, List.drop_zero, Nat.sub_self, List.take_zero]; exact .nil
          · cases hh with
            | immz _ hn => rw [hn] at hp; cases hp
            | imm _ q arr e fr hq hS hb hr =>
              obtain rfl : q = p := by rw [hq] at hp; exact Option.some.inj hp
              exact hr.lst hb (.inl hS) (fun _ hb => .inl hb) hc.1 hc.2 off h4 c h2 h3
        · cases h
      | box cs => simp [hH] at h
      | immb cs => simp [hH] at h
      | dead => simp [hH] at h
    | pt id off =>
      simp only [see] at h
      have hh := hM.homes id
      cases hv with
      | pt _ _ p hp =>
        cases hH : H id with
        | immb cs =>
          simp only [hH] at h hh
          cases h
          obtain ⟨q, arr, e, fr, hq, hS, hb, hc⟩ := hh.immbCells
          obtain rfl : q = p := by rw [hq] at hp; exact Option.some.inj hp
          exact (hc.mono (fun _ hb => .inl hb) (fun _ _ => rfl)).ptr hb (.inl hS) off
        | box cs =>
          simp only [hH] at h hh
          obtain ⟨xs, hxs, rfl⟩ := Option.map_eq_some_iff.1 h
          obtain ⟨q, arr, e, hq, hb, hc⟩ := hh.boxCells
          obtain rfl : q = p := by rw [hq] at hp; exact Option.some.inj hp
          exact (cells hc hxs).ptr hb (.inr ⟨id, q, by rw [hH]; rfl, hq, rfl⟩) off
        | _ => simp [hH] at h
    | agg cs =>
      simp only [see] at h
      obtain ⟨xs, hxs, rfl⟩ := Option.map_eq_some_iff.1 h
      cases hv with
      | agg _ vs hl ho hv =>
        obtain ⟨hl', hg⟩ := seeAll_get hxs
        refine .agg xs vs (by omega) ho (fun j x u hj hu => ?_)
        have hjl : j < cs.length := by rw [hl']; exact (List.getElem?_eq_some_iff.1 hj).1
        obtain ⟨x', hx', hsee⟩ := hg j _ (List.getElem?_eq_getElem hjl)
        rw [hj] at hx'; cases hx'
        exact ih (hv j _ u (List.getElem?_eq_getElem hjl) hu) hsee
    | fn f cs =>
      simp only [see] at h
      obtain ⟨xs, hxs, rfl⟩ := Option.map_eq_some_iff.1 h
      cases hv with
      | fn _ _ vs hl hv =>
        obtain ⟨hl', hg⟩ := seeAll_get hxs
        refine .fn f xs vs (by omega) (fun j x u hj hu => ?_)
        have hjl : j < cs.length := by rw [hl']; exact (List.getElem?_eq_some_iff.1 hj).1
        obtain ⟨x', hx', hsee⟩ := hg j _ (List.getElem?_eq_getElem hjl)
        rw [hj] at hx'; cases hx'
        exact ih (hv j _ u (List.getElem?_eq_getElem hjl) hu) hsee
    | _ => simp [see] at h

/-- freezing makes nothing live -/
theorem frz_live : ∀ (n : Nat) {H H1 : Hs} {v : AV} {x : Dat}, frz n H v = some (x, H1) → ∀ id, (H1 id).live = true → (H id).live = true
  | 0, _, _, _, _, h => by simp [frz] at h
  | n + 1, H, H1, v, x, h => by
    have list : ∀ (cs : List AV) {H H1 : Hs} {xs : List Dat}, frzL (frz n) H cs = some (xs, H1) → ∀ id, (H1 id).live = true → (H id).live = true := by
      intro cs
      induction cs with
      | nil => intro H H1 xs h; simp [frzL] at h; obtain ⟨_, rfl⟩ := h; exact fun _ h => h
      | cons c cs ihl =>
        intro H H1 xs h
        simp only [frzL] at h
        split at h
        · cases h
        · rename_i x0 H2 h0
          split at h
          · rename_i xs0 H3 h1
            cases h
            exact fun id hid => frz_live n h0 id (ihl h1 id hid)
          · cases h
    have setd : ∀ {H : Hs} {i : Nat} {h : Home}, h.live = false → ∀ id, (upd H i h id).live = true → (H id).live = true := by
      intro H i h hl id hid
      by_cases e : id = i
      · subst e; simp [upd, hl] at hid
      · simpa [upd, e] using hid
    intro id hid
    cases v with
    | d x0 => simp [frz] at h; obtain ⟨_, rfl⟩ := h; exact hid
    | nil => simp [frz] at h; obtain ⟨_, rfl⟩ := h; exact hid
    | sl i lo hi =>
      simp only [frz] at h
      split at h
      · split at h
        · simp only [Option.some.injEq, Prod.mk.injEq] at h; obtain ⟨_, rfl⟩ := h; exact setd rfl id hid
        · cases h
      · split at h
        · simp only [Option.some.injEq, Prod.mk.injEq] at h; obtain ⟨_, rfl⟩ := h; exact hid
        · cases h
      · cases h
    | pt i off =>
      simp only [frz] at h
      split at h
      · simp only [Option.some.injEq, Prod.mk.injEq] at h; obtain ⟨_, rfl⟩ := h; exact hid
      · split at h
        · rename_i xs H2 h2
          split at h
          · simp only [Option.some.injEq, Prod.mk.injEq] at h; obtain ⟨_, rfl⟩ := h; exact list _ h2 id (setd rfl id hid)
          · cases h
        · cases h
      · cases h
    | agg cs =>
      simp only [frz] at h
      obtain ⟨⟨xs, H2⟩, h2, hh⟩ := Option.map_eq_some_iff.1 h
      simp only [Prod.mk.injEq] at hh
      obtain ⟨_, rfl⟩ := hh
      exact list _ h2 id hid
    | fn f cs =>
      simp only [frz] at h
      obtain ⟨⟨xs, H2⟩, h2, hh⟩ := Option.map_eq_some_iff.1 h
      simp only [Prod.mk.injEq] at hh
      obtain ⟨_, rfl⟩ := hh
      exact list _ h2 id hid
    | _ => simp [frz] at h

/-- for good -/
theorem frz_sound : ∀ (n : Nat) {H : Hs} {S : Nat → Prop} {v : AV} {val : Value} {x : Dat} {H1 : Hs}, Mem C S0 L0 w0 S B H F w → AVR S w B v val → frz n H v = some (x, H1) →
    ∃ S1 : Nat → Prop, Mem C S0 L0 w0 S1 B H1 F w ∧ (∀ b, S b → S1 b) ∧ VR S1 w x val ∧ (∀ b, S1 b → S b ∨ Lv B H b)
  | 0, _, _, _, _, _, _, _, _, h => by simp [frz] at h
  | n + 1, H, S, v, val, x, H1, hM, hv, h => by
    have list : ∀ (cs : List AV) (us : List Value) {H : Hs} {S : Nat → Prop} {xs : List Dat} {H1 : Hs}, Mem C S0 L0 w0 S B H F w → cs.length = us.length → (∀ (j : Nat) c u, cs[j]? = some c → us[j]? = some u → AVR S w B c u) → frzL (frz n) H cs = some (xs, H1) →
        ∃ S1 : Nat → Prop, Mem C S0 L0 w0 S1 B H1 F w ∧ (∀ b, S b → S1 b) ∧ xs.length = us.length ∧ (∀ (j : Nat) c u, xs[j]? = some c → us[j]? = some u → VR S1 w c u) ∧ (∀ b, S1 b → S b ∨ Lv B H b) := by
      intro cs
      induction cs with
      | nil =>
        intro us H S xs H1 hM hl hv h
        simp [frzL] at h
        obtain ⟨rfl, rfl⟩ := h
        exact ⟨S, hM, fun _ hb => hb, hl, fun j c u hj _ => by simp at hj, fun _ hb => .inl hb⟩
      | cons c cs ihl =>
        intro us H S xs H1 hM hl hv h
        match us, hl with
        | u :: us, hl =>
          simp only [frzL] at h
          split at h
          · cases h
          · rename_i x0 H2 h0
            split at h
            · rename_i xs0 H3 h1
              cases h
              obtain ⟨S1, hM1, hS1, hx1, hL1⟩ := frz_sound n hM (hv 0 c u rfl rfl) h0
              obtain ⟨S2, hM2, hS2, hl2, hx2, hL2⟩ := ihl us hM1 (by simpa using hl) (fun j c' u' hj hu => (hv (j + 1) c' u' (by simpa using hj) (by simpa using hu)).mono hS1 (fun _ _ => rfl) (Ext.refl _)) h1
              refine ⟨S2, hM2, fun b hb => hS2 b (hS1 b hb), by simp [hl2], fun j c' u' hj hu => ?_, fun b hb => ?_⟩
              · match j with
                | 0 => simp at hj hu; subst hj; subst hu; exact hx1.mono hS2 (fun _ _ => rfl)
                | j + 1 => exact hx2 j c' u' (by simpa using hj) (by simpa using hu)
              · rcases hL2 b hb with hb | ⟨id, p, hl, hp, rfl⟩
                · exact hL1 b hb
                · by_cases hlive : (H id).live = true
                  · exact .inr ⟨id, p, hlive, hp, rfl⟩
                  · exact absurd hl (by
                      intro hl
                      have := frz_live n h0 id hl
                      exact hlive this)
            · cases h
    cases v with
    | d x0 =>
      simp [frz] at h
      obtain ⟨rfl, rfl⟩ := h
      cases hv with | d _ _ hv => exact ⟨S, hM, fun _ hb => hb, hv, fun _ hb => .inl hb⟩
    | nil =>
      simp [frz] at h
      obtain ⟨rfl, rfl⟩ := h
      cases hv; exact ⟨S, hM, fun _ hb => hb, .nil, fun _ hb => .inl hb⟩
    | sl id lo hi =>
      simp only [frz] at h
      have hh := hM.homes id
      cases hH : H id with
      | own z xs =>
        simp only [hH] at h hh
        split at h
        · rename_i hc
          simp only [Option.some.injEq, Prod.mk.injEq] at h
          obtain ⟨rfl, rfl⟩ := h
          cases hh with
          | ownz _ hn =>
            refine ⟨S, ?_, fun _ hb => hb, ?_, fun _ hb => .inl hb⟩
            · have hd := hM.drop id
              refine ⟨?_, ?_, hM.freshB, ?_, ?_, hM.lt, hM.glob, hM.os, hM.tape, hM.output, hM.size, hM.keep, hM.sub, ?_, hM.sIn⟩
              · intro j
                by_cases e : j = id
                · subst e; simp only [upd, if_true]; exact .immz _ hn
                · simp only [upd, e, if_false]; exact hM.homes j
              · intro j hj
                have : j ≠ id := fun e => by subst e; have := hM.fresh _ hj; rw [hH] at this; cases this
                simp [upd, this, hM.fresh j hj]
              · intro i j q q' hi hj hq hq' hne
                have hi' : (H i).live = true := by by_cases e : i = id <;> simp_all [upd, Home.live]
                have hj' : (H j).live = true := by by_cases e : j = id <;> simp_all [upd, Home.live]
                exact hM.inj i j q q' hi' hj' hq hq' hne
              · intro j q hj hq
                have hj' : (H j).live = true := by by_cases e : j = id <;> simp_all [upd, Home.live]
                exact hM.off j q hj' hq
              · intro j q hj hq
                have hj' : (H j).live = true := by by_cases e : j = id <;> simp_all [upd, Home.live]
                exact hM.liveIn j q hj' hq
            · rcases hv.slCases with ⟨rfl, rfl, rfl⟩ | ⟨p, off, c, hp, rfl, h1, h2, h3, h4, _⟩
              · simp only [win, List.drop_zero, Nat.sub_self, List.take_zero]; exact .nil
              · rw [hn] at hp; cases hp
          | own _ q arr e hq hb hr =>
            have hl : (H id).live = true := by rw [hH]; rfl
            refine ⟨fun b => S b ∨ b = q.blk, hM.fixOwn id q hl hq (.imm ⟨e, q.sz⟩ xs) rfl (.imm xs q arr e (0, 0) hq (.inr rfl) hb (hr.mono (fun _ h => .inl h) (fun _ _ => rfl))), fun _ hb => .inl hb, ?_, ?_⟩
            · rcases hv.slCases with ⟨rfl, rfl, rfl⟩ | ⟨p, off, c, hp, rfl, h1, h2, h3, h4, _⟩
              · simp only [win, List.drop_zero, Nat.sub_self, List.take_zero]; exact .nil
              · obtain rfl : q = p := by rw [hq] at hp; exact Option.some.inj hp
                exact hr.lst hb (.inr rfl) (fun _ hb => .inl hb) hc.1 hc.2 off h4 c h2 h3
            · rintro b (hb | rfl)
              · exact .inl hb
              · exact .inr ⟨id, q, hl, hq, rfl⟩
        · cases h
      | imm z xs =>
        simp only [hH] at h hh
        split at h
        · rename_i hc
          simp only [Option.some.injEq, Prod.mk.injEq] at h
          obtain ⟨rfl, rfl⟩ := h
          refine ⟨S, hM, fun _ hb => hb, ?_, fun _ hb => .inl hb⟩
          rcases hv.slCases with ⟨rfl, rfl, rfl⟩ | ⟨p, off, c, hp, rfl, h1, h2, h3, h4, _⟩
          · simp only [win, List.drop_zero, Nat.sub_self, List.take_zero]; exact .nil
          · cases hh with
            | immz _ hn => rw [hn] at hp; cases hp
            | imm _ q arr e fr hq hS hb hr =>
              obtain rfl : q = p := by rw [hq] at hp; exact Option.some.inj hp
              exact hr.lst hb hS (fun _ hb => hb) hc.1 hc.2 off h4 c h2 h3
        · cases h
      | box cs => simp [hH] at h
      | immb cs => simp [hH] at h
      | dead => simp [hH] at h
    | pt id off =>
      simp only [frz] at h
      have hh := hM.homes id
      cases hv with
      | pt _ _ p hp =>
        cases hH : H id with
        | immb cs =>
          simp only [hH] at h hh
          simp only [Option.some.injEq, Prod.mk.injEq] at h
          obtain ⟨rfl, rfl⟩ := h
          obtain ⟨q, arr, e, fr, hq, hS, hb, hc⟩ := hh.immbCells
          obtain rfl : q = p := by rw [hq] at hp; exact Option.some.inj hp
          exact ⟨S, hM, fun _ hb => hb, hc.ptr hb hS off, fun _ hb => .inl hb⟩
        | box cs =>
          simp only [hH] at h hh
          split at h
          · rename_i xs H2 h2
            split at h
            · rename_i cs2 hcs2
              simp only [Option.some.injEq, Prod.mk.injEq] at h
              obtain ⟨rfl, rfl⟩ := h
              obtain ⟨q, arr, e, hq, hb, hc⟩ := hh.boxCells
              obtain rfl : q = p := by rw [hq] at hp; exact Option.some.inj hp
              obtain ⟨S1, hM1, hS1, hl1, hx1, hL1⟩ := list cs arr.toList hM hc.1 (fun j c u hj hu => (hc.2 j c u hj hu).2) h2
              have hl : (H2 id).live = true := by rw [hcs2]; rfl
              have hlH : (H id).live = true := by rw [hH]; rfl
              have hcd : CellsD (fun b => S1 b ∨ b = q.blk) w xs arr.toList := ⟨hl1, fun j c u hj hu => by
                have hjl : j < cs.length := by rw [hc.1, ← hl1]; exact (List.getElem?_eq_some_iff.1 hj).1
                exact ⟨(hc.2 j _ u (List.getElem?_eq_getElem hjl) hu).1, (hx1 j c u hj hu).mono (fun _ h => .inl h) (fun _ _ => rfl)⟩⟩
              refine ⟨fun b => S1 b ∨ b = q.blk, hM1.fixOwn id q hl hq (.immb xs) rfl ?_, fun b hb => .inl (hS1 b hb), hcd.ptr hb (.inr rfl) off, ?_⟩
              · refine .immb xs q arr e (0, 0) hq (.inr rfl) hb (by simpa using hl1.symm) (fun j c hj => ?_)
                have hjl : j < arr.size := by
                  have := (List.getElem?_eq_some_iff.1 hj).1
                  simp at hl1; omega
                have := hcd.2 j c arr[j] hj (by simp [hjl])
                exact ⟨arr[j], by simp [hjl], this.1, this.2⟩
              · rintro b (hb | rfl)
                · exact hL1 b hb
                · exact .inr ⟨id, q, hlH, hq, rfl⟩
            · cases h
          · cases h
        | _ => simp [hH] at h
    | agg cs =>
      simp only [frz] at h
      obtain ⟨⟨xs, H2⟩, h2, hh⟩ := Option.map_eq_some_iff.1 h
      simp only [Prod.mk.injEq] at hh
      obtain ⟨rfl, rfl⟩ := hh
      cases hv with
      | agg _ vs hl ho hv =>
        obtain ⟨S1, hM1, hS1, hl1, hx1, hL1⟩ := list cs vs.toList hM (by simpa using hl) (fun j c u hj hu => hv j c u hj (by simpa using hu)) h2
        exact ⟨S1, hM1, hS1, .agg xs vs (by simpa using hl1) ho (fun j c u hj hu => hx1 j c u hj (by simpa using hu)), hL1⟩
    | fn f cs =>
      simp only [frz] at h
      obtain ⟨⟨xs, H2⟩, h2, hh⟩ := Option.map_eq_some_iff.1 h
      simp only [Prod.mk.injEq] at hh
      obtain ⟨rfl, rfl⟩ := hh
      cases hv with
      | fn _ _ vs hl hv =>
        obtain ⟨S1, hM1, hS1, hl1, hx1, hL1⟩ := list cs vs.toList hM (by simpa using hl) (fun j c u hj hu => hv j c u hj (by simpa using hu)) h2
        exact ⟨S1, hM1, hS1, .fn f xs vs (by simpa using hl1) (fun j c u hj hu => hx1 j c u hj (by simpa using hu)), hL1⟩
    | _ => simp [frz] at h

end
end Go.Jv
