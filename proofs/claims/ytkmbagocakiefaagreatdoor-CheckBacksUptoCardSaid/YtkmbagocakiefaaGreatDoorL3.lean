/- A value shown as a tree: for the moment, or for good. -/
import Derived.Test.YtkmbagocakiefaaGreatDoorL2
import Derived.Lib.ConvBytes
import Derived.Lib.Bytes
import Derived.Laws.Slices
namespace Go.Jv
section
variable {P : Program} {C : Cfg} {S0 : Nat → Prop} {L0 : Lz} {w0 : World} {S : Nat → Prop} {B : Nat → Option Pl} {H : Hs} {F : Nat → Prop} {nx : Nat} {w : World}
def Lv (B : Nat → Option Pl) (H : Hs) (b : Nat) : Prop := ∃ id p, (H id).live = true ∧ B id = some p ∧ p.blk = b
theorem rf {xs : List Dat} {lo hi : Nat} (h1 : lo ≤ hi) (h2 : hi ≤ xs.length) : (win xs lo hi).length = hi - lo := by
 simp [win]; omega
theorem nv {xs : List Dat} {lo hi i : Nat} {x : Dat} (h : (win xs lo hi)[i]? = some x) : xs[lo + i]? = some x ∧ i < hi - lo := by
 unfold win at h
 rw [List.getElem?_take] at h
 split at h
 ·rw [List.getElem?_drop] at h; rename_i hi'; exact ⟨h, hi'⟩
 ·cases h
theorem kB.lst {T : Nat → Prop} {p : Pl} {arr : Array Value} {e : TypeId} {fr : Nat × Nat} {xs : List Dat} (h : kB S w p arr xs) (hb : w.heap[p.blk]? = some (.cells arr e fr)) (hT : T p.blk) (hS : ∀ b, S b → T b)
  {lo hi : Nat} (h1 : lo ≤ hi) (h2 : hi ≤ xs.length) (off : Nat) (hoff : off = lo * p.sz ∨ lo = hi) (c : Nat) (hc : hi - lo ≤ c) (hm : c ≤ maxLen) :
  VR T w (.lst (win xs lo hi)) (.slice (some ⟨p.blk, off, none⟩) (hi - lo) c) := by
 have hwl := rf h1 h2
 have key := VR.lst (S := T) (w := w) (win xs lo hi) p.blk off c p.sz (fun i j => arr.getD ((lo + i) * p.sz + j) Go.undef) hT (by omega) hm
  (fun i x hx => h.2.2.2.1 (lo + i) x (nv hx).1)
  (fun i j hi' hj => by
   have hx : (win xs lo hi)[i]? = some ((win xs lo hi)[i]) := List.getElem?_eq_getElem hi'
   obtain ⟨hx1, hlt⟩ := nv hx
   have hoff' : off = lo * p.sz := by rcases hoff with h | h <;> omega
   obtain ⟨he, hz, hle⟩ := h.elem hx1
   have hidx : off + (i * p.sz + j) = (lo + i) * p.sz + j := by rw [hoff', Nat.add_mul]; omega
   have hsz : (lo + i) * p.sz + j < arr.size := by omega
   simp [World.cell?, hb, hidx, Array.getD_eq_getD_getElem?, hsz])
  (fun i j hi' hj => by
   have hx : (win xs lo hi)[i]? = some ((win xs lo hi)[i]) := List.getElem?_eq_getElem hi'
   obtain ⟨hx1, hlt⟩ := nv hx
   have hz := h.2.2.2.1 _ _ hx1
   obtain ⟨u, hu1, hu2, hu3⟩ := h.2.2.2.2 _ _ j _ hx1 (List.getElem?_eq_getElem (by omega))
   simpa [Array.getD_eq_getD_getElem?, hu1] using hu2)
  (fun i x j c hx hj => by
   obtain ⟨hx1, hlt⟩ := nv hx
   obtain ⟨u, hu1, hu2, hu3⟩ := h.2.2.2.2 _ _ j _ hx1 hj
   have : arr.getD ((lo + i) * p.sz + j) Go.undef = u := by simp [Array.getD_eq_getD_getElem?, hu1]
   rw [this]
   exact hu3.mono hS (fun _ _ => rfl))
 rw [hwl] at key
 exact key
theorem AVR.slCases {id lo hi : Nat} {v : Value} (h : AVR S w B (.sl id lo hi) v) :
  (lo = 0 ∧ hi = 0 ∧ v = .slice none 0 0) ∨ ∃ p off c, B id = some p ∧ v = .slice (some ⟨p.blk, off, none⟩) (hi - lo) c ∧ lo ≤ hi ∧ hi - lo ≤ c ∧ c ≤ maxLen ∧ (off = lo * p.sz ∨ lo = hi) ∧ (lo = 0 → off = 0 ∧ c = p.cap ∧ hi ≤ p.cap) := by
 cases h with
 | slz => exact .inl ⟨rfl, rfl, rfl⟩
 | sl _ _ _ p hp h1 h2 h3 hm => exact .inr ⟨p, _, _, hp, rfl, h1, by omega, by omega, .inl rfl, fun e => by subst e; simp [h2]⟩
 | sle _ _ off c p hp h hm => exact .inr ⟨p, off, c, hp, by simp, Nat.le_refl _, by omega, hm, .inr rfl, fun e => by omega⟩
theorem bf.ptr {T : Nat → Prop} {cs : List Dat} {b : Nat} {arr : Array Value} {e : TypeId} {fr : Nat × Nat} (hc : bf T w cs arr.toList) (hb : w.heap[b]? = some (.cells arr e fr)) (hT : T b) (off : Nat) :
  VR T w (.ptr (cs.drop off)) (.pointer (some ⟨b, off, none⟩)) := by
 have hl := hc.1
 refine .ptr _ b off (fun j => arr.getD (off + j) Go.undef) hT (fun j hj => ?_) (fun j hj => ?_) (fun j c hj => ?_)
 ·simp only [List.length_drop] at hj
  have : off + j < arr.size := by simp at hl; omega
  simp [World.cell?, hb, Array.getD_eq_getD_getElem?, this]
 ·simp only [List.length_drop] at hj
  have h1 : off + j < arr.size := by simp at hl; omega
  have h2 : off + j < cs.length := by omega
  have := (hc.2 (off + j) _ arr[off + j] (List.getElem?_eq_getElem h2) (by simp [h1])).1
  simpa [Array.getD_eq_getD_getElem?, h1] using this
 ·rw [List.getElem?_drop] at hj
  have h2 : off + j < cs.length := (List.getElem?_eq_some_iff.1 hj).1
  have h1 : off + j < arr.size := by simp at hl; omega
  have := (hc.2 (off + j) c arr[off + j] hj (by simp [h1])).2
  simpa [Array.getD_eq_getD_getElem?, h1] using this
theorem nM {f : AV → Option Dat} : ∀ {cs : List AV} {xs : List Dat}, ck f cs = some xs → cs.length = xs.length ∧ ∀ (j : Nat) c, cs[j]? = some c → ∃ x, xs[j]? = some x ∧ f c = some x
 | [], xs, h => by simp [ck] at h; subst h; exact ⟨rfl, fun j c hj => by simp at hj⟩
 | c :: cs, xs, h => by
  simp only [ck] at h
  split at h
  ·rename_i x xs0 h1 h2
   cases h
   obtain ⟨hl, hv⟩ := nM h2
   refine ⟨by simp [hl], fun j c' hj => ?_⟩
   match j with
   | 0 => simp at hj; subst hj; exact ⟨x, rfl, h1⟩
   | j + 1 => simpa using hv j c' (by simpa using hj)
  ·cases h
theorem xI (hM : Mem C S0 L0 w0 S B H F w) : ∀ (n : Nat) {v : AV} {val : Value} {x : Dat}, AVR S w B v val → see n H v = some x → VR (fun b => S b ∨ Lv B H b) w x val
 | 0, v, val, x, _, h => by simp [see] at h
 | n + 1, v, val, x, hv, h => by
  have ih := fun {v : AV} {val : Value} {x : Dat} => xI hM n (v := v) (val := val) (x := x)
  have cells : ∀ {cs : List AV} {us : List Value} {xs : List Dat}, dx S w B cs us → ck (see n H) cs = some xs → bf (fun b => S b ∨ Lv B H b) w xs us := by
   intro cs us xs hc hs
   obtain ⟨hl, hg⟩ := nM hs
   refine ⟨by rw [← hl, hc.1], fun j x u hj hu => ?_⟩
   have hjl : j < cs.length := by rw [hl]; exact (List.getElem?_eq_some_iff.1 hj).1
   obtain ⟨x', hx', hsee⟩ := hg j _ (List.getElem?_eq_getElem hjl)
   rw [hj] at hx'
   cases hx'
   have := hc.2 j _ u (List.getElem?_eq_getElem hjl) hu
   exact ⟨this.1, ih this.2 hsee⟩
  cases v with
  | d x0 => simp [see] at h; subst h; cases hv with | d _ _ hv => exact hv.mono (fun _ hb => .inl hb) (fun _ _ => rfl)
  | nil => simp [see] at h; subst h; cases hv; exact .nil
  | sl id lo hi =>
   simp only [see] at h
   have hh := hM.homes id
   cases hH : H id with
   | own z xs =>
    simp only [hH] at h hh
    split at h
    ·rename_i hc
     cases h
     rcases hv.slCases with ⟨rfl, rfl, rfl⟩ | ⟨p, off, c, hp, rfl, h1, h2, h3, h4, _⟩
     ·simp only [win, List.drop_zero, Nat.sub_self, List.take_zero]; exact .nil
     ·cases hh with
      | ownz _ hn => rw [hn] at hp; cases hp
      | own _ q arr e hq hb hr =>
       obtain rfl : q = p := by rw [hq] at hp; exact Option.some.inj hp
       exact hr.lst hb (.inr ⟨id, q, by rw [hH]; rfl, hq, rfl⟩) (fun _ hb => .inl hb) hc.1 hc.2 off h4 c h2 h3
    ·cases h
   | imm z xs =>
    simp only [hH] at h hh
    split at h
    ·rename_i hc
     cases h
     rcases hv.slCases with ⟨rfl, rfl, rfl⟩ | ⟨p, off, c, hp, rfl, h1, h2, h3, h4, _⟩
     ·simp only [win, List.drop_zero, Nat.sub_self, List.take_zero]; exact .nil
     ·cases hh with
      | immz _ hn => rw [hn] at hp; cases hp
      | imm _ q arr e fr hq hS hb hr =>
       obtain rfl : q = p := by rw [hq] at hp; exact Option.some.inj hp
       exact hr.lst hb (.inl hS) (fun _ hb => .inl hb) hc.1 hc.2 off h4 c h2 h3
    ·cases h
   | box cs => simp [hH] at h
   | immb cs => simp [hH] at h
   | dead => simp [hH] at h
   | map es => simp [hH] at h
  | pt id off =>
   simp only [see] at h
   have hh := hM.homes id
   cases hv with
   | pt _ _ p hp =>
    cases hH : H id with
    | immb cs =>
     simp only [hH] at h hh
     cases h
     obtain ⟨q, arr, e, fr, hq, hS, hb, hc⟩ := hh.immbCells
     obtain rfl : q = p := by rw [hq] at hp; exact Option.some.inj hp
     exact (hc.mono (fun _ hb => .inl hb) (fun _ _ => rfl)).ptr hb (.inl hS) off
    | box cs =>
     simp only [hH] at h hh
     obtain ⟨xs, hxs, rfl⟩ := Option.map_eq_some_iff.1 h
     obtain ⟨q, arr, e, hq, hb, hc⟩ := hh.boxCells
     obtain rfl : q = p := by rw [hq] at hp; exact Option.some.inj hp
     exact (cells hc hxs).ptr hb (.inr ⟨id, q, by rw [hH]; rfl, hq, rfl⟩) off
    | _ => simp [hH] at h
  | agg cs =>
   simp only [see] at h
   obtain ⟨xs, hxs, rfl⟩ := Option.map_eq_some_iff.1 h
   cases hv with
   | agg _ vs hl ho hv =>
    obtain ⟨hl', hg⟩ := nM hxs
    refine .agg xs vs (by omega) ho (fun j x u hj hu => ?_)
    have hjl : j < cs.length := by rw [hl']; exact (List.getElem?_eq_some_iff.1 hj).1
    obtain ⟨x', hx', hsee⟩ := hg j _ (List.getElem?_eq_getElem hjl)
    rw [hj] at hx'; cases hx'
    exact ih (hv j _ u (List.getElem?_eq_getElem hjl) hu) hsee
  | fn f cs =>
   simp only [see] at h
   obtain ⟨xs, hxs, rfl⟩ := Option.map_eq_some_iff.1 h
   cases hv with
   | fn _ _ vs hl hv =>
    obtain ⟨hl', hg⟩ := nM hxs
    refine .fn f xs vs (by omega) (fun j x u hj hu => ?_)
    have hjl : j < cs.length := by rw [hl']; exact (List.getElem?_eq_some_iff.1 hj).1
    obtain ⟨x', hx', hsee⟩ := hg j _ (List.getElem?_eq_getElem hjl)
    rw [hj] at hx'; cases hx'
    exact ih (hv j _ u (List.getElem?_eq_getElem hjl) hu) hsee
  | _ => simp [see] at h
theorem F3 : ∀ (n : Nat) {H H1 : Hs} {v : AV} {x : Dat}, frz n H v = some (x, H1) → ∀ id, (H1 id).live = true → (H id).live = true
 | 0, _, _, _, _, h => by simp [frz] at h
 | n + 1, H, H1, v, x, h => by
  have list : ∀ (cs : List AV) {H H1 : Hs} {xs : List Dat}, cg (frz n) H cs = some (xs, H1) → ∀ id, (H1 id).live = true → (H id).live = true := by
   intro cs
   induction cs with
   | nil => intro H H1 xs h; simp [cg] at h; obtain ⟨_, rfl⟩ := h; exact fun _ h => h
   | cons c cs ihl =>
    intro H H1 xs h
    simp only [cg] at h
    split at h
    ·cases h
    ·rename_i x0 H2 h0
     split at h
     ·rename_i xs0 H3 h1
      cases h
      exact fun id hid => F3 n h0 id (ihl h1 id hid)
     ·cases h
  have setd : ∀ {H : Hs} {i : Nat} {h : dq}, h.live = false → ∀ id, (upd H i h id).live = true → (H id).live = true := by
   intro H i h hl id hid
   by_cases e : id = i
   ·subst e; simp [upd, hl] at hid
   ·simpa [upd, e] using hid
  intro id hid
  cases v with
  | d x0 => simp [frz] at h; obtain ⟨_, rfl⟩ := h; exact hid
  | nil => simp [frz] at h; obtain ⟨_, rfl⟩ := h; exact hid
  | sl i lo hi =>
   simp only [frz] at h
   split at h
   ·split at h
    ·simp only [Option.some.injEq, Prod.mk.injEq] at h; obtain ⟨_, rfl⟩ := h; exact setd rfl id hid
    ·cases h
   ·split at h
    ·simp only [Option.some.injEq, Prod.mk.injEq] at h; obtain ⟨_, rfl⟩ := h; exact hid
    ·cases h
   ·cases h
  | pt i off =>
   simp only [frz] at h
   split at h
   ·simp only [Option.some.injEq, Prod.mk.injEq] at h; obtain ⟨_, rfl⟩ := h; exact hid
   ·split at h
    ·rename_i xs H2 h2
     split at h
     ·simp only [Option.some.injEq, Prod.mk.injEq] at h; obtain ⟨_, rfl⟩ := h; exact list _ h2 id (setd rfl id hid)
     ·cases h
    ·cases h
   ·cases h
  | agg cs =>
   simp only [frz] at h
   obtain ⟨⟨xs, H2⟩, h2, hh⟩ := Option.map_eq_some_iff.1 h
   simp only [Prod.mk.injEq] at hh
   obtain ⟨_, rfl⟩ := hh
   exact list _ h2 id hid
  | fn f cs =>
   simp only [frz] at h
   obtain ⟨⟨xs, H2⟩, h2, hh⟩ := Option.map_eq_some_iff.1 h
   simp only [Prod.mk.injEq] at hh
   obtain ⟨_, rfl⟩ := hh
   exact list _ h2 id hid
  | _ => simp [frz] at h
theorem tc : ∀ (n : Nat) {H : Hs} {S : Nat → Prop} {v : AV} {val : Value} {x : Dat} {H1 : Hs}, Mem C S0 L0 w0 S B H F w → AVR S w B v val → frz n H v = some (x, H1) →
  ∃ S1 : Nat → Prop, Mem C S0 L0 w0 S1 B H1 F w ∧ (∀ b, S b → S1 b) ∧ VR S1 w x val ∧ (∀ b, S1 b → S b ∨ Lv B H b)
 | 0, _, _, _, _, _, _, _, _, h => by simp [frz] at h
 | n + 1, H, S, v, val, x, H1, hM, hv, h => by
  have list : ∀ (cs : List AV) (us : List Value) {H : Hs} {S : Nat → Prop} {xs : List Dat} {H1 : Hs}, Mem C S0 L0 w0 S B H F w → cs.length = us.length → (∀ (j : Nat) c u, cs[j]? = some c → us[j]? = some u → AVR S w B c u) → cg (frz n) H cs = some (xs, H1) →
    ∃ S1 : Nat → Prop, Mem C S0 L0 w0 S1 B H1 F w ∧ (∀ b, S b → S1 b) ∧ xs.length = us.length ∧ (∀ (j : Nat) c u, xs[j]? = some c → us[j]? = some u → VR S1 w c u) ∧ (∀ b, S1 b → S b ∨ Lv B H b) := by
   intro cs
   induction cs with
   | nil =>
    intro us H S xs H1 hM hl hv h
    simp [cg] at h
    obtain ⟨rfl, rfl⟩ := h
    exact ⟨S, hM, fun _ hb => hb, hl, fun j c u hj _ => by simp at hj, fun _ hb => .inl hb⟩
   | cons c cs ihl =>
    intro us H S xs H1 hM hl hv h
    match us, hl with
    | u :: us, hl =>
     simp only [cg] at h
     split at h
     ·cases h
     ·rename_i x0 H2 h0
      split at h
      ·rename_i xs0 H3 h1
       cases h
       obtain ⟨S1, hM1, hS1, hx1, hL1⟩ := tc n hM (hv 0 c u rfl rfl) h0
       obtain ⟨S2, hM2, hS2, hl2, hx2, hL2⟩ := ihl us hM1 (by simpa using hl) (fun j c' u' hj hu => (hv (j + 1) c' u' (by simpa using hj) (by simpa using hu)).mono hS1 (fun _ _ => rfl) (Ext.refl _)) h1
       refine ⟨S2, hM2, fun b hb => hS2 b (hS1 b hb), by simp [hl2], fun j c' u' hj hu => ?_, fun b hb => ?_⟩
       ·match j with
        | 0 => simp at hj hu; subst hj; subst hu; exact hx1.mono hS2 (fun _ _ => rfl)
        | j + 1 => exact hx2 j c' u' (by simpa using hj) (by simpa using hu)
       ·rcases hL2 b hb with hb | ⟨id, p, hl, hp, rfl⟩
        ·exact hL1 b hb
        ·by_cases hlive : (H id).live = true
         ·exact .inr ⟨id, p, hlive, hp, rfl⟩
         ·exact absurd hl (by
           intro hl
           have := F3 n h0 id hl
           exact hlive this)
      ·cases h
  cases v with
  | d x0 =>
   simp [frz] at h
   obtain ⟨rfl, rfl⟩ := h
   cases hv with | d _ _ hv => exact ⟨S, hM, fun _ hb => hb, hv, fun _ hb => .inl hb⟩
  | nil =>
   simp [frz] at h
   obtain ⟨rfl, rfl⟩ := h
   cases hv; exact ⟨S, hM, fun _ hb => hb, .nil, fun _ hb => .inl hb⟩
  | sl id lo hi =>
   simp only [frz] at h
   have hh := hM.homes id
   cases hH : H id with
   | own z xs =>
    simp only [hH] at h hh
    split at h
    ·rename_i hc
     simp only [Option.some.injEq, Prod.mk.injEq] at h
     obtain ⟨rfl, rfl⟩ := h
     cases hh with
     | ownz _ hn =>
      refine ⟨S, ?_, fun _ hb => hb, ?_, fun _ hb => .inl hb⟩
      ·have hd := hM.drop id
       refine ⟨?_, ?_, hM.freshB, ?_, ?_, hM.lt, hM.glob, hM.os, hM.tape, hM.output, hM.size, hM.keep, hM.sub, ?_, hM.sIn, hM.b0, hM.b0F⟩
       ·intro j
        by_cases e : j = id
        ·subst e; simp only [upd, if_true]; exact .immz _ hn
        ·simp only [upd, e, if_false]; exact hM.homes j
       ·intro j hj
        have : j ≠ id := fun e => by subst e; have := hM.fresh _ hj; rw [hH] at this; cases this
        simp [upd, this, hM.fresh j hj]
       ·intro i j q q' hi hj hq hq' hne
        have hi' : (H i).live = true := by by_cases e : i = id <;> simp_all [upd, dq.live]
        have hj' : (H j).live = true := by by_cases e : j = id <;> simp_all [upd, dq.live]
        exact hM.inj i j q q' hi' hj' hq hq' hne
       ·intro j q hj hq
        have hj' : (H j).live = true := by by_cases e : j = id <;> simp_all [upd, dq.live]
        exact hM.off j q hj' hq
       ·intro j q hj hq
        have hj' : (H j).live = true := by by_cases e : j = id <;> simp_all [upd, dq.live]
        exact hM.liveIn j q hj' hq
      ·rcases hv.slCases with ⟨rfl, rfl, rfl⟩ | ⟨p, off, c, hp, rfl, h1, h2, h3, h4, _⟩
       ·simp only [win, List.drop_zero, Nat.sub_self, List.take_zero]; exact .nil
       ·rw [hn] at hp; cases hp
     | own _ q arr e hq hb hr =>
      have hl : (H id).live = true := by rw [hH]; rfl
      refine ⟨fun b => S b ∨ b = q.blk, hM.fixOwn id q hl hq (.imm ⟨e, q.sz⟩ xs) rfl (.imm xs q arr e (0, 0) hq (.inr rfl) hb (hr.mono (fun _ h => .inl h) (fun _ _ => rfl))), fun _ hb => .inl hb, ?_, ?_⟩
      ·rcases hv.slCases with ⟨rfl, rfl, rfl⟩ | ⟨p, off, c, hp, rfl, h1, h2, h3, h4, _⟩
       ·simp only [win, List.drop_zero, Nat.sub_self, List.take_zero]; exact .nil
       ·obtain rfl : q = p := by rw [hq] at hp; exact Option.some.inj hp
        exact hr.lst hb (.inr rfl) (fun _ hb => .inl hb) hc.1 hc.2 off h4 c h2 h3
      ·rintro b (hb | rfl)
       ·exact .inl hb
       ·exact .inr ⟨id, q, hl, hq, rfl⟩
    ·cases h
   | imm z xs =>
    simp only [hH] at h hh
    split at h
    ·rename_i hc
     simp only [Option.some.injEq, Prod.mk.injEq] at h
     obtain ⟨rfl, rfl⟩ := h
     refine ⟨S, hM, fun _ hb => hb, ?_, fun _ hb => .inl hb⟩
     rcases hv.slCases with ⟨rfl, rfl, rfl⟩ | ⟨p, off, c, hp, rfl, h1, h2, h3, h4, _⟩
     ·simp only [win, List.drop_zero, Nat.sub_self, List.take_zero]; exact .nil
     ·cases hh with
      | immz _ hn => rw [hn] at hp; cases hp
      | imm _ q arr e fr hq hS hb hr =>
       obtain rfl : q = p := by rw [hq] at hp; exact Option.some.inj hp
       exact hr.lst hb hS (fun _ hb => hb) hc.1 hc.2 off h4 c h2 h3
    ·cases h
   | box cs => simp [hH] at h
   | immb cs => simp [hH] at h
   | dead => simp [hH] at h
   | map es => simp [hH] at h
  | pt id off =>
   simp only [frz] at h
   have hh := hM.homes id
   cases hv with
   | pt _ _ p hp =>
    cases hH : H id with
    | immb cs =>
     simp only [hH] at h hh
     simp only [Option.some.injEq, Prod.mk.injEq] at h
     obtain ⟨rfl, rfl⟩ := h
     obtain ⟨q, arr, e, fr, hq, hS, hb, hc⟩ := hh.immbCells
     obtain rfl : q = p := by rw [hq] at hp; exact Option.some.inj hp
     exact ⟨S, hM, fun _ hb => hb, hc.ptr hb hS off, fun _ hb => .inl hb⟩
    | box cs =>
     simp only [hH] at h hh
     split at h
     ·rename_i xs H2 h2
      split at h
      ·rename_i cs2 hcs2
       simp only [Option.some.injEq, Prod.mk.injEq] at h
       obtain ⟨rfl, rfl⟩ := h
       obtain ⟨q, arr, e, hq, hb, hc⟩ := hh.boxCells
       obtain rfl : q = p := by rw [hq] at hp; exact Option.some.inj hp
       obtain ⟨S1, hM1, hS1, hl1, hx1, hL1⟩ := list cs arr.toList hM hc.1 (fun j c u hj hu => (hc.2 j c u hj hu).2) h2
       have hl : (H2 id).live = true := by rw [hcs2]; rfl
       have hlH : (H id).live = true := by rw [hH]; rfl
       have hcd : bf (fun b => S1 b ∨ b = q.blk) w xs arr.toList := ⟨hl1, fun j c u hj hu => by
        have hjl : j < cs.length := by rw [hc.1, ← hl1]; exact (List.getElem?_eq_some_iff.1 hj).1
        exact ⟨(hc.2 j _ u (List.getElem?_eq_getElem hjl) hu).1, (hx1 j c u hj hu).mono (fun _ h => .inl h) (fun _ _ => rfl)⟩⟩
       refine ⟨fun b => S1 b ∨ b = q.blk, hM1.fixOwn id q hl hq (.immb xs) rfl ?_, fun b hb => .inl (hS1 b hb), hcd.ptr hb (.inr rfl) off, ?_⟩
       ·refine .immb xs q arr e (0, 0) hq (.inr rfl) hb (by simpa using hl1.symm) (fun j c hj => ?_)
        have hjl : j < arr.size := by
         have := (List.getElem?_eq_some_iff.1 hj).1
         simp at hl1; omega
        have := hcd.2 j c arr[j] hj (by simp [hjl])
        exact ⟨arr[j], by simp [hjl], this.1, this.2⟩
       ·rintro b (hb | rfl)
        ·exact hL1 b hb
        ·exact .inr ⟨id, q, hlH, hq, rfl⟩
      ·cases h
     ·cases h
    | _ => simp [hH] at h
  | agg cs =>
   simp only [frz] at h
   obtain ⟨⟨xs, H2⟩, h2, hh⟩ := Option.map_eq_some_iff.1 h
   simp only [Prod.mk.injEq] at hh
   obtain ⟨rfl, rfl⟩ := hh
   cases hv with
   | agg _ vs hl ho hv =>
    obtain ⟨S1, hM1, hS1, hl1, hx1, hL1⟩ := list cs vs.toList hM (by simpa using hl) (fun j c u hj hu => hv j c u hj (by simpa using hu)) h2
    exact ⟨S1, hM1, hS1, .agg xs vs (by simpa using hl1) ho (fun j c u hj hu => hx1 j c u hj (by simpa using hu)), hL1⟩
  | fn f cs =>
   simp only [frz] at h
   obtain ⟨⟨xs, H2⟩, h2, hh⟩ := Option.map_eq_some_iff.1 h
   simp only [Prod.mk.injEq] at hh
   obtain ⟨rfl, rfl⟩ := hh
   cases hv with
   | fn _ _ vs hl hv =>
    obtain ⟨S1, hM1, hS1, hl1, hx1, hL1⟩ := list cs vs.toList hM (by simpa using hl) (fun j c u hj hu => hv j c u hj (by simpa using hu)) h2
    exact ⟨S1, hM1, hS1, .fn f xs vs (by simpa using hl1) (fun j c u hj hu => hx1 j c u hj (by simpa using hu)), hL1⟩
  | _ => simp [frz] at h
end
end Go.Jv
namespace Go.Jv
section
variable {P : Program} {C : Cfg} {S0 : Nat → Prop} {L0 : Lz} {w0 : World} {S : Nat → Prop} {B : Nat → Option Pl} {H : Hs} {F : Nat → Prop} {nx : Nat} {w : World}
theorem VR.intV {k : IntKind} {n : Int} {v : Value} (h : VR S w (.int k n) v) : v = .int k n := by cases h; rfl
theorem VR.boolV {b : Bool} {v : Value} (h : VR S w (.bool b) v) : v = .bool b := by cases h; rfl
theorem VR.strV {s : ByteArray} {v : Value} (h : VR S w (.str s) v) : v = .string s := by cases h; rfl
theorem AVR.dV {x : Dat} {v : Value} (h : AVR S w B (.d x) v) : VR S w x v := by cases h; assumption
theorem DE (s : ByteArray) : s.toList = s.data.toList := by
 exact Go.Lib.toList_data s
theorem CX (a b : ByteArray) : (a.toList == b.toList) = decide (a = b) := by
 rw [DE, DE, Bool.eq_iff_iff]
 simp only [beq_iff_eq, decide_eq_true_eq]
 constructor
 ·intro h
  cases a; cases b
  congr 1
  exact Array.toList_inj.1 h
 ·rintro rfl; rfl
theorem vP {op : BinOp} {t : TypeId} {x y : Operand} {a b r : Dat} {u v : Value} (ha : VR S w a u) (hb : VR S w b v) (h : uc op a b = some r) :
  ∃ val, (do eqGuard op t x y u v; binOp op t u v : Sem Value).run P w = .ok val w ∧ VR S w r val := by
 cases a <;> cases b <;> try (simp [uc] at h; done)
 case int.int k m k' n =>
  obtain rfl := ha.intV
  obtain rfl := hb.intV
  have hg : ∀ op, (eqGuard op t x y (.int k m) (.int k' n)).run P w = .ok () w := by intro op; unfold eqGuard; cases op <;> rfl
  rw [Sem.run_bind, hg, Result.andThen_ok]
  simp only [uc] at h
  cases op <;> simp only at h
  case shl =>
   split at h
   ·cases h
   ·rename_i hn; cases h; exact ⟨_, by simp [binOp, Op.shift, hn], .int _ _⟩
  case shr =>
   split at h
   ·cases h
   ·rename_i hn; cases h; exact ⟨_, by simp [binOp, Op.shift, hn], .int _ _⟩
  case quo =>
   split at h
   ·rename_i hk; subst hk; simp only [Ht] at h
    split at h
    ·cases h
    ·rename_i hn; cases h; exact ⟨_, by simp [binOp, Op.intDiv, hn], .int _ _⟩
   ·cases h
  case rem =>
   split at h
   ·rename_i hk; subst hk; simp only [Ht] at h
    split at h
    ·cases h
    ·rename_i hn; cases h; exact ⟨_, by simp [binOp, Op.intDiv, hn], .int _ _⟩
   ·cases h
  all_goals
   split at h
   ·rename_i hk; subst hk
    simp only [Ht, Option.some.injEq, reduceCtorEq] at h
    try (subst h)
    first
     | exact ⟨_, by simp [binOp, Op.intArith, Op.intCmp, Op.intBits]; rfl, .int _ _⟩
     | exact ⟨_, by simp [binOp, Op.intArith, Op.intCmp, Op.intBits], .int _ _⟩
     | (refine ⟨_, by simp [binOp, Op.intArith, Op.intCmp, Op.intBits]; rfl, ?_⟩; exact .bool _)
     | (refine ⟨.bool _, ?_, .bool _⟩; simp [binOp, Op.intArith, Op.intCmp, Op.intBits, bne, BEq.beq])
     | (refine ⟨.bool _, ?_, .bool _⟩; simp [binOp, Op.intArith, Op.intCmp, Op.intBits])
   ·cases h
 case str.str m n =>
  obtain rfl := ha.strV
  obtain rfl := hb.strV
  have hg : ∀ op, (eqGuard op t x y (.string m) (.string n)).run P w = .ok () w := by intro op; unfold eqGuard; cases op <;> rfl
  rw [Sem.run_bind, hg, Result.andThen_ok]
  simp only [uc] at h
  cases op <;> simp only [reduceCtorEq] at h
  case add =>
   split at h
   ·rename_i hle
    cases h
    refine ⟨.string (m ++ n), ?_, .str _⟩
    have : ¬ (((m.size + n.size : Nat) : Int) > IntKind.i64.max) := by
     have : IntKind.i64.max = 9223372036854775807 := by rfl
     omega
    simp only [binOp, Op.stringOp]
    rw [if_neg this]
    rfl
   ·cases h
  case eql => cases h; exact ⟨.bool _, by simp [binOp, Op.stringOp, CX], .bool _⟩
  case neq => cases h; exact ⟨.bool _, by simp [binOp, Op.stringOp, CX], .bool _⟩
  case lss => cases h; exact ⟨.bool _, by simp [binOp, Op.stringOp], .bool _⟩
  case geq => cases h; exact ⟨.bool _, by simp [binOp, Op.stringOp], .bool _⟩
theorem C1 (V : ca P C) {t : TypeId} {x y : Operand} {a b : Dat} {u v : Value} {r : Bool} (ha : VR S w a u) (hb : VR S w b v) (h : CQ C t a b = some r) :
  (do eqGuard .eql t x y u v; binOp .eql t u v : Sem Value).run P w = .ok (.bool r) w ∧ (do eqGuard .neq t x y u v; binOp .neq t u v : Sem Value).run P w = .ok (.bool (!r)) w := by
 unfold CQ at h
 cases hy : C.ty t with
 | none => simp [hy] at h
 | some i =>
  have hu := (V.ty t i hy).1
  cases a <;> cases b <;> simp only [hy, reduceCtorEq] at h
  case bool.bool m n =>
   split at h
   ·rename_i hd
    cases h
    obtain rfl := ha.boolV
    obtain rfl := hb.boolV
    rw [hd] at hu
    have hg : ∀ op, (eqGuard op t x y (.bool m) (.bool n)).run P w = .ok () w := by intro op; unfold eqGuard; cases op <;> rfl
    have he : (Op.equal t (.bool m) (.bool n)).run P w = .ok (decide (m = n)) w := by
     unfold Op.equal
     obtain ⟨md, hmd⟩ : ∃ md, Op.maxDepth = md + 1 := ⟨9999, rfl⟩
     rw [hmd]
     simp only [Op.equalIn, Sem.run_bind, run_underlying hu w, Result.andThen_ok]
     simp [BEq.beq]
    refine ⟨?_, ?_⟩ <;> rw [Sem.run_bind, hg, Result.andThen_ok] <;> simp [binOp, he]
   ·cases h
  case agg.agg xs ys =>
   split at h
   ·rename_i hd
    split at h
    ·rename_i qs he
     cases ha with
     | agg _ us hl ho hv =>
      cases hb with
      | agg _ vs hl' ho' hv' =>
       have flat : ∀ (ds : List Dat) (qs : List Nat) (es : List Dat) (r : Bool), cM qs ds es = some r → ∀ (j : Nat) (c : Dat), (ds[j]? = some c ∨ es[j]? = some c) → ∀ (S' : Nat → Prop) (w' : World) (u : Value), VR S w c u → VR S' w' c u := by
        intro ds
        induction ds with
        | nil => intro qs es r h j c hj; cases qs <;> cases es <;> simp [cM] at h hj
        | cons d ds ih =>
         intro qs es r h j c hj S' w' u hu
         match qs, es with
         | [], _ => simp [cM] at h
         | _ :: _, [] => simp [cM] at h
         | q :: qs, e :: es =>
          simp only [cM] at h
          split at h
          ·rename_i r1 r2 h1 h2
           match j with
           | 0 =>
            have hc : c = d ∨ c = e := by simpa [eq_comm] using hj
            unfold eqD at h1; split at h1 <;> first | (cases h1; done) | (rcases hc with rfl | rfl <;> cases hu <;> constructor)
           | j + 1 => exact ih qs es r2 h2 j c (by simpa using hj) S' w' u hu
          ·cases h
       have e := V.eqs t qs i he hy hd us vs xs ys r w x y h
        (fun S' w' => .agg xs us hl ho (fun j c u hj hu => flat xs qs ys r h j c (.inl hj) S' w' u (hv j c u hj hu)))
        (fun S' w' => .agg ys vs hl' ho' (fun j c u hj hu => flat xs qs ys r h j c (.inr hj) S' w' u (hv' j c u hj hu)))
       exact e
    ·cases h
   ·cases h
theorem HK (V : ca P C) {op : BinOp} {t : TypeId} {x y : Operand} {a b : AV} {r : Dat} {u v : Value} (ha : AVR S w B a u) (hb : AVR S w B b v) (h : qA C op t a b = some r) :
  ∃ val, (do eqGuard op t x y u v; binOp op t u v : Sem Value).run P w = .ok val w ∧ VR S w r val := by
 unfold qA at h
 split at h
 ·rename_i a0 b0 h1 h2
  have ha' := jT ha h1
  have hb' := jT hb h2
  split at h
  ·split at h
   ·rename_i r0 hr; cases h; exact vP ha' hb' hr
   ·obtain ⟨r0, hr, rfl⟩ := Option.map_eq_some_iff.1 h
    exact ⟨_, (C1 V ha' hb' hr).1, .bool _⟩
  ·split at h
   ·rename_i r0 hr; cases h; exact vP ha' hb' hr
   ·obtain ⟨r0, hr, rfl⟩ := Option.map_eq_some_iff.1 h
    exact ⟨_, (C1 V ha' hb' hr).2, .bool _⟩
  ·exact vP ha' hb' h
 ·cases h
theorem IS {op : UnOp} {a r : Dat} {u : Value} (ha : VR S w a u) (h : unD op a = some r) : ∃ val, (Op.unary op u).run P w = .ok val w ∧ VR S w r val := by
 cases op <;> cases a <;> simp [unD] at h
 ·subst h; obtain rfl := ha.intV; exact ⟨_, by simp [Op.unary, Op.intArith], .int _ _⟩
 ·subst h; obtain rfl := ha.boolV; exact ⟨_, by simp [Op.unary], .bool _⟩
theorem Gm (V : ca P C) {s t : TypeId} {a r : AV} {u : Value} (ha : AVR S w B a u) (h : vF C s t a = some r) : ∃ val, (convert s t u).run P w = .ok val w ∧ AVR S w B r val := by
 unfold vF at h
 split at h
 ·rename_i y z k n h1 h2
  obtain rfl := ha.dV.intV
  split at h
  ·rename_i hd1 hd2
   cases h
   have e1 := (V.ty _ _ h1).1
   have e2 := (V.ty _ _ h2).1
   rw [hd1] at e1; rw [hd2] at e2
   refine ⟨.int _ _, ?_, .d _ _ (.int _ _)⟩
   unfold convert
   rw [Sem.run_bind, run_underlying e1 w, Result.andThen_ok, Sem.run_bind, run_underlying e2 w, Result.andThen_ok]
   simp [Conv.intToInt]
  ·cases h
 ·rename_i y z s0 h1 h2
  obtain rfl := ha.dV.strV
  split at h
  ·rename_i hd1 hd2
   cases h
   have e1 := (V.ty _ _ h1).1
   have e2 := (V.ty _ _ h2).1
   rw [hd1] at e1; rw [hd2] at e2
   refine ⟨.string _, ?_, .d _ _ (.str _)⟩
   unfold convert
   rw [Sem.run_bind, run_underlying e1 w, Result.andThen_ok, Sem.run_bind, run_underlying e2 w, Result.andThen_ok]
   rfl
  ·cases h
 ·cases h
theorem mj {a : AV} {n : Nat} {u : Value} (ha : AVR S w B a u) (h : ri a = some n) : u = .int .i64 (n : Int) := by
 unfold ri at h
 split at h
 ·rename_i m
  split at h
  ·rename_i h0
   cases h
   obtain rfl := ha.dV.intV
   congr 1; omega
  ·cases h
 ·cases h
theorem iT {n cap : Nat} {lo hi : Option AV} {lv hv : Option Value} (isS : Bool) (hlo : ∀ a, lo = some a → ∃ v, lv = some v ∧ AVR S w B a v) (hlo0 : lo = none → lv = none)
  (hhi : ∀ a, hi = some a → ∃ v, hv = some v ∧ AVR S w B a v) (hhi0 : hi = none → hv = none) (hc : n ≤ cap) {l h : Nat} (e : ue n lo hi = some (l, h)) :
  l ≤ h ∧ h ≤ n ∧ (Instr.sliceBounds isS n cap lv hv none).run P w = .ok (l, h, cap) w := by
 unfold ue at e
 split at e
 ·rename_i l0 h0 e1 e2
  split at e
  ·rename_i hle
   simp only [Option.some.injEq, Prod.mk.injEq] at e
   obtain ⟨rfl, rfl⟩ := e
   refine ⟨hle.1, hle.2, ?_⟩
   have sb : ∀ (m y : Nat) (code : BoundsCode), m ≤ y → (Instr.sliceBound (.int .i64 (m : Int)) y code).run P w = .ok m w := by
    intro m y code hm
    have := run_sliceBound (P := P) (w := w) .i64 (m : Int) y code (by omega) (by omega)
    simpa using this
   cases lo with
   | none =>
    have := hlo0 rfl; subst this
    simp at e1; subst e1
    cases hi with
    | none =>
     have := hhi0 rfl; subst this
     simp at e2; subst e2
     simp [Instr.sliceBounds]
    | some a =>
     obtain ⟨v, rfl, hv⟩ := hhi a rfl
     obtain rfl := mj hv e2
     simp [Instr.sliceBounds, sb _ _ _ (show h0 ≤ cap by omega)]
   | some b =>
    obtain ⟨v, rfl, hv⟩ := hlo b rfl
    obtain rfl := mj hv e1
    cases hi with
    | none =>
     have := hhi0 rfl; subst this
     simp at e2; subst e2
     simp [Instr.sliceBounds, sb _ _ _ hle.1]
    | some a =>
     obtain ⟨v, rfl, hv⟩ := hhi a rfl
     obtain rfl := mj hv e2
     simp [Instr.sliceBounds, sb _ _ _ (show h0 ≤ cap by omega), sb _ _ _ hle.1]
  ·cases e
 ·cases e
end
end Go.Jv
namespace Go.Jv
section
variable {P : Program} {C : Cfg} {S0 : Nat → Prop} {L0 : Lz} {w0 : World} {S : Nat → Prop} {B : Nat → Option Pl} {H : Hs} {F : Nat → Prop} {nx : Nat} {w : World}
theorem jJ (V : ca P C) {t : TypeId} {n : Nat} (h : bP C t = some n) (w : World) : (sizeOf t).run P w = .ok n w := by
 unfold bP at h
 obtain ⟨y, hy, rfl⟩ := Option.map_eq_some_iff.1 h
 obtain ⟨_, i, z, hi, hs, _⟩ := V.ty t y hy
 simp [sizeOf, typeInfo, hi, hs]
theorem Bj (hM : Mem C S0 L0 w0 S B H F w) {id : Nat} {n : Option Nat} (h : nR (H id) n = true) : ∃ z, n = some z ∧ ∀ p, B id = some p → z = p.sz := by
 have hh := hM.homes id
 unfold nR at h
 split at h
 ·rename_i r m hr
  simp only [decide_eq_true_eq] at h
  subst h
  refine ⟨_, rfl, fun p hp => ?_⟩
  cases hH : H id with
  | own y xs =>
   rw [hH] at hr hh
   simp [ud] at hr
   subst hr
   cases hh with
   | own _ q _ _ hq _ _ => rw [hq] at hp; cases hp; rfl
   | ownz _ hn => rw [hn] at hp; cases hp
  | imm y xs =>
   rw [hH] at hr hh
   simp [ud] at hr
   subst hr
   cases hh with
   | imm _ q _ _ _ hq _ _ _ => rw [hq] at hp; cases hp; rfl
   | immz _ hn => rw [hn] at hp; cases hp
  | _ => rw [hH] at hr; simp [ud] at hr
 ·cases h
theorem CD (V : ca P C) {t e : TypeId} {y : Ty} (hy : C.ty t = some y) (hd : y.desc = .slice e) (x : Value) (lo hi : Option Value) : (Instr.sliceAt t x lo hi none).run P w = (Instr.slice t x lo hi none).run P w := by
 have hu := (V.ty t y hy).1
 rw [hd] at hu
 unfold Instr.sliceAt
 rw [Sem.run_bind, run_underlying hu w, Result.andThen_ok]
theorem ip (V : ca P C) {t e : TypeId} {y : Ty} (hy : C.ty t = some y) (hd : y.desc = .slice e) {a : Option Addr} {n cap l h z : Nat} {lo hi : Option Value} (hb : (Instr.sliceBounds true n cap lo hi none).run P w = .ok (l, h, cap) w) (hz : (sizeOf e).run P w = .ok z w) :
  (Instr.sliceAt t (.slice a n cap) lo hi none).run P w = .ok (.slice (if cap = l then a else a.map (·.add (l * z))) (h - l) (cap - l)) w := by
 rw [CD V hy hd]
 have hu := (V.ty t y hy).1
 rw [hd] at hu
 unfold Instr.slice
 rw [Sem.run_bind, run_underlying hu w, Result.andThen_ok]
 simp [hb, hz]
theorem EH (V : ca P C) (hM : Mem C S0 L0 w0 S B H F w) {t : TypeId} {x r : AV} {v : Value} {lo hi : Option AV} {lv hv : Option Value} (hx : AVR S w B x v)
  (hlo : ∀ a, lo = some a → ∃ v, lv = some v ∧ AVR S w B a v) (hlo0 : lo = none → lv = none) (hhi : ∀ a, hi = some a → ∃ v, hv = some v ∧ AVR S w B a v) (hhi0 : hi = none → hv = none)
  (h : gr C H t x lo hi false = some r) : ∃ val, (Instr.sliceAt t v lv hv none).run P w = .ok val w ∧ AVR S w B r val := by
 unfold gr at h
 simp only [Bool.false_eq_true, if_false] at h
 cases hy : C.ty t with
 | none => simp [hy] at h
 | some y =>
  simp only [hy] at h
  have hu := (V.ty t y hy).1
  split at h
  ·rename_i s hd
   obtain rfl := hx.dV.strV
   obtain ⟨⟨l, h'⟩, e, rfl⟩ := Option.map_eq_some_iff.1 h
   obtain ⟨h1, h2, hb⟩ := iT (P := P) (w := w) (S := S) (B := B) false hlo hlo0 hhi hhi0 (Nat.le_refl s.size) e
   rw [hd] at hu
   refine ⟨.string (s.extract l h'), ?_, .d _ _ (.str _)⟩
   unfold Instr.sliceAt
   rw [Sem.run_bind, run_underlying hu w, Result.andThen_ok]
   simp only
   unfold Instr.slice
   rw [Sem.run_bind, run_underlying hu w, Result.andThen_ok]
   simp [hb]
  ·rename_i el id a b hd
   split at h
   ·rename_i hz
    obtain ⟨⟨l, h'⟩, e, rfl⟩ := Option.map_eq_some_iff.1 h
    obtain ⟨z, hsz, hzp⟩ := Bj hM hz
    have hrz := jJ V hsz w
    cases hx with
    | slz =>
     obtain ⟨g1, g2, hb⟩ := iT (P := P) (w := w) (S := S) (B := B) true hlo hlo0 hhi hhi0 (Nat.le_refl 0) e
     obtain rfl : h' = 0 := by omega
     obtain rfl : l = 0 := by omega
     exact ⟨_, ip V hy hd hb hrz, by simpa using AVR.slz id⟩
    | sl _ _ _ p hp k1 k2 k3 km =>
     obtain ⟨g1, g2, hb⟩ := iT (P := P) (w := w) (S := S) (B := B) true hlo hlo0 hhi hhi0 (show b - a ≤ p.cap - a by omega) e
     obtain rfl := hzp p hp
     refine ⟨_, ip V hy hd hb hrz, ?_⟩
     by_cases hc : p.cap - a = l
     ·rw [if_pos hc]
      have hl : h' = l := by omega
      subst hl
      by_cases h0 : a + h' = 0
      ·have ha : a = 0 := by omega
       have hh : h' = 0 := by omega
       subst ha; subst hh
       have := AVR.sl (S := S) (w := w) (B := B) id 0 0 p hp (Nat.le_refl _) (Nat.zero_le _) (.inl rfl) km
       simpa using this
      ·have := AVR.sle (S := S) (w := w) (B := B) id (a + h') (a * p.sz) (p.cap - a - h') p hp (by omega) (by omega)
       simpa using this
     ·rw [if_neg hc]
      have := AVR.sl (S := S) (w := w) (B := B) id (a + l) (a + h') p hp (by omega) (by omega) (.inr (by omega)) km
      have e1 : a + h' - (a + l) = h' - l := by omega
      have e2 : p.cap - (a + l) = p.cap - a - l := by omega
      rw [e1, e2, Nat.add_mul] at this
      simpa [Addr.add_mid] using this
    | sle _ _ off c p hp k1 km =>
     obtain ⟨g1, g2, hb⟩ := iT (P := P) (w := w) (S := S) (B := B) true hlo hlo0 hhi hhi0 (show a - a ≤ c by omega) e
     obtain rfl : h' = 0 := by omega
     obtain rfl : l = 0 := by omega
     have hb' : (Instr.sliceBounds true 0 c lv hv none).run P w = .ok (0, 0, c) w := by simpa using hb
     refine ⟨_, ip V hy hd hb' hrz, ?_⟩
     have := AVR.sle (S := S) (w := w) (B := B) id a off c p hp k1 km
     by_cases hc : c = 0
     ·simpa [hc] using this
     ·simpa [hc, Addr.add_mid] using this
   ·cases h
  ·rename_i el hd
   split at h
   ·rename_i hsome
    obtain ⟨z, hz⟩ := Option.isSome_iff_exists.1 hsome
    obtain ⟨⟨l, h'⟩, e, rfl⟩ := Option.map_eq_some_iff.1 h
    cases hx
    obtain ⟨g1, g2, hb⟩ := iT (P := P) (w := w) (S := S) (B := B) true hlo hlo0 hhi hhi0 (Nat.le_refl 0) e
    obtain rfl : h' = 0 := by omega
    obtain rfl : l = 0 := by omega
    exact ⟨_, ip V hy hd hb (jJ V hz w), by simpa using AVR.nil⟩
   ·cases h
  ·rename_i el xs hd
   split at h
   ·rename_i l h' z e hz
    split at h
    ·rename_i hall
     cases h
     have hrz := jJ V hz w
     cases hx with
     | d _ _ hx =>
      cases hx with
      | nil =>
       obtain ⟨g1, g2, hb⟩ := iT (P := P) (w := w) (S := S) (B := B) true hlo hlo0 hhi hhi0 (Nat.le_refl 0) e
       obtain rfl : h' = 0 := by omega
       obtain rfl : l = 0 := by omega
       exact ⟨_, ip V hy hd hb hrz, by simpa [win] using AVR.d _ _ VR.nil⟩
      | emp a cap hm =>
       obtain ⟨g1, g2, hb⟩ := iT (P := P) (w := w) (S := S) (B := B) (cap := cap) true hlo hlo0 hhi hhi0 (Nat.zero_le _) e
       obtain rfl : h' = 0 := by omega
       obtain rfl : l = 0 := by omega
       refine ⟨_, ip V hy hd hb hrz, ?_⟩
       have : ∃ a' : Addr, (if cap = 0 then some a else (some a).map (·.add (0 * z))) = some a' := by split <;> exact ⟨_, rfl⟩
       obtain ⟨a', ha'⟩ := this
       rw [ha']
       exact .d _ _ (.emp a' cap hm)
      | lst _ b off cap sz us hS hl hm hzz hc ho hv =>
       obtain ⟨g1, g2, hb⟩ := iT (P := P) (w := w) (S := S) (B := B) true hlo hlo0 hhi hhi0 hl e
       refine ⟨_, ip V hy hd hb hrz, ?_⟩
       have hwl := rf g1 g2
       have hoff : ∃ off', (if cap = l then some (⟨b, off, none⟩ : Addr) else (some (⟨b, off, none⟩ : Addr)).map (·.add (l * z))) = some ⟨b, off', none⟩ ∧ (off' = off + l * sz ∨ l = h') := by
        by_cases hcl : cap = l
        ·exact ⟨off, by simp [hcl], .inr (by omega)⟩
        ·refine ⟨off + l * z, by simp [hcl, Addr.add_mid], ?_⟩
         by_cases hl0 : l = 0
         ·left; subst hl0; omega
         ·rcases hall with hall | hall
          ·exact absurd hall hl0
          ·left
           have h0 : 0 < xs.length := by omega
           have hx0 : xs[0]? = some xs[0] := List.getElem?_eq_getElem h0
           have e1 := hzz 0 _ hx0
           have e2 : xs[0].cells.length = z := by simpa using (List.all_eq_true.1 hall) xs[0] (List.getElem_mem h0)
           rw [← e1, e2]
       obtain ⟨off', ho1, ho2⟩ := hoff
       rw [ho1, ← hwl]
       refine .d _ _ (.lst (win xs l h') b off' (cap - l) sz (fun i j => us (l + i) j) hS (by omega) (by omega) ?_ ?_ ?_ ?_)
       ·intro i x hx; exact hzz _ x (nv hx).1
       ·intro i j hi hj
        have hlt : i < h' - l := by omega
        have e1 : off' = off + l * sz := by rcases ho2 with h | h <;> omega
        have := hc (l + i) j (by omega) hj
        rw [← this, e1]
        congr 2
        rw [Nat.add_mul]; omega
       ·intro i j hi hj; exact ho _ _ (by omega) hj
       ·intro i x j c hx hj; exact hv _ x j c (nv hx).1 hj
    ·cases h
   ·cases h
  ·cases h
theorem qF (V : ca P C) {t e : TypeId} {y : Ty} (hy : C.ty t = some y) (hd : y.desc = .slice e) {z : Nat} (hz : bP C e = some z) {b o n cap : Nat} {k : IntKind} {i : Int} (h0 : 0 ≤ i) (h1 : i < n) :
  (Instr.indexAt t (.slice (some ⟨b, o, none⟩) n cap) (.int k i)).run P w = .ok (.pointer (some ⟨b, o + i.toNat * z, none⟩)) w := by
 have hu := (V.ty t y hy).1
 rw [hd] at hu
 unfold Instr.indexAt
 simp only [asIntOf, pure_bind, Sem.run_bind, run_underlying hu w, Result.andThen_ok]
 simp [h0, h1, jJ V hz, Addr.add_mid]
theorem lN (V : ca P C) {t e : TypeId} {y : Ty} {n : Nat} (hy : C.ty t = some y) (hd : y.desc = .array n e) {z : Nat} (hz : bP C e = some z) {b o : Nat} {k : IntKind} {i : Int} (h0 : 0 ≤ i) (h1 : i < n) :
  (Instr.indexAt t (.pointer (some ⟨b, o, none⟩)) (.int k i)).run P w = .ok (.pointer (some ⟨b, o + i.toNat * z, none⟩)) w := by
 have hu := (V.ty t y hy).1
 rw [hd] at hu
 unfold Instr.indexAt
 simp only [asIntOf, pure_bind, Sem.run_bind, run_underlying hu w, Result.andThen_ok]
 simp [h0, h1, jJ V hz, Addr.add_mid, Instr.sureAddr, run_underlying hu w]
theorem xm {a : AV} {n : Int} {u : Value} (ha : AVR S w B a u) (h : iR a = some n) : ∃ k, u = .int k n := by
 unfold iR at h
 split at h
 ·rename_i k m; cases h; exact ⟨k, ha.dV.intV⟩
 ·cases h
theorem VR.ptrDrop {cs : List Dat} {b off : Nat} (h : VR S w (.ptr cs) (.pointer (some ⟨b, off, none⟩))) (k : Nat) : VR S w (.ptr (cs.drop k)) (.pointer (some ⟨b, off + k, none⟩)) := by
 cases h with
 | ptr _ _ _ us hS hc ho hv =>
  refine .ptr _ b (off + k) (fun j => us (k + j)) hS (fun j hj => ?_) (fun j hj => ?_) (fun j c hj => ?_)
  ·rw [← hc (k + j) (by simp at hj; omega), Nat.add_assoc]
  ·exact ho _ (by simp at hj; omega)
  ·exact hv _ c (by simpa [List.getElem?_drop] using hj)
theorem Av (V : ca P C) (hM : Mem C S0 L0 w0 S B H F w) {t : TypeId} {x i r : AV} {v iv : Value} (hx : AVR S w B x v) (hi : AVR S w B i iv) (h : dJ C H t x i = some r) :
  ∃ val, (Instr.indexAt t v iv).run P w = .ok val w ∧ AVR S w B r val := by
 unfold dJ at h
 cases hn : iR i with
 | none => simp [hn] at h
 | some n =>
  simp only [hn] at h
  obtain ⟨k, rfl⟩ := xm hi hn
  split at h
  ·cases h
  ·rename_i hneg
   have h0 : 0 ≤ n := by omega
   cases he : cd C t with
   | some el =>
    simp only [he] at h
    obtain ⟨y, hy, hd⟩ : ∃ y, C.ty t = some y ∧ y.desc = .slice el := by
     unfold cd at he
     cases hy : C.ty t with
     | none => simp [hy] at he
     | some y => simp only [hy] at he; split at he <;> simp_all
    split at h
    ·rename_i id lo hi'
     split at h
     ·rename_i hc
      cases h
      obtain ⟨z, hsz, hzp⟩ := Bj hM hc.2
      cases hx with
      | slz => have := hc.1; omega
      | sl _ _ _ p hp k1 k2 k3 km =>
       obtain rfl := hzp p hp
       refine ⟨_, qF V hy hd hsz h0 hc.1, ?_⟩
       have := AVR.pe (S := S) (w := w) (B := B) id (lo + n.toNat) 0 p hp
       rw [Nat.add_mul, Nat.add_zero] at this
       exact this
      | sle => have := hc.1; omega
     ·cases h
    ·rename_i xs
     split at h
     ·rename_i y1 hy1
      split at h
      ·rename_i hz
       cases h
       have hlt : n.toNat < xs.length := (List.getElem?_eq_some_iff.1 hy1).1
       cases hx with
       | d _ _ hx =>
        cases hx with
        | nil => simp at hy1
        | emp => simp at hy1
        | lst _ b off cap sz us hS hl hm hzz hc ho hv =>
         refine ⟨_, qF V hy hd hz h0 (by omega), ?_⟩
         have e1 := hzz _ _ hy1
         refine .d _ _ (.ptr y1.cells b _ (fun j => us n.toNat j) hS (fun j hj => ?_) (fun j hj => ho _ _ hlt (by omega)) (fun j c hj => hv _ y1 j c hy1 hj))
         rw [← hc n.toNat j hlt (by omega), e1, Nat.add_assoc]
      ·cases h
     ·cases h
    ·cases h
   | none =>
    simp only [he] at h
    cases ha : iq C t with
    | none => simp [ha] at h
    | some r0 =>
     obtain ⟨len, e⟩ := r0
     simp only [ha] at h
     obtain ⟨y, hy, hd⟩ : ∃ y, C.ty t = some y ∧ y.desc = .array len e := by
      unfold iq at ha
      cases hy : C.ty t with
      | none => simp [hy] at ha
      | some y => simp only [hy] at ha; split at ha <;> simp_all
     split at h
     ·rename_i z hz
      split at h
      ·rename_i hlt
       split at h
       ·rename_i id off
        cases h
        cases hx with
        | pt _ _ p hp => exact ⟨_, lN V hy hd hz h0 hlt, .pt id _ p hp⟩
       ·rename_i id i' j
        cases h
        cases hx with
        | pe _ _ _ p hp =>
         refine ⟨_, lN V hy hd hz h0 hlt, ?_⟩
         have := AVR.pe (S := S) (w := w) (B := B) id i' (j + n.toNat * z) p hp
         rwa [← Nat.add_assoc] at this
       ·rename_i cs
        cases h
        cases hx with
        | d _ _ hx =>
         cases hx with
         | ptr _ b off us hS hc ho hv =>
          exact ⟨_, lN V hy hd hz h0 hlt, .d _ _ (VR.ptrDrop (.ptr cs b off us hS hc ho hv) _)⟩
       ·cases h
      ·cases h
     ·cases h
theorem oS (V : ca P C) {t : TypeId} {n : Nat} {g : Bool} (hn : bP C t = some n) (hg : lP C t = some g) {vs : Array Value} {off : Nat} (hle : off + n ≤ vs.size) {u : Value} (hu : mkV g ((vs.toList.drop off).take n) = some u) :
  (part t vs off).run P w = .ok u w := by
 unfold lP at hg
 obtain ⟨y, hy, hgy⟩ := Option.map_eq_some_iff.1 hg
 have hund := (V.ty t y hy).1
 have ha : (Go.isAgg t).run P w = .ok g w := by
  unfold Go.isAgg
  rw [Sem.run_bind, run_underlying hund w, Result.andThen_ok, ← hgy]
  cases y.desc <;> rfl
 unfold part
 rw [Sem.run_bind, ha, Result.andThen_ok]
 cases g with
 | true =>
  simp only [mkV, if_true] at hu
  cases hu
  simp only [if_true]
  simp [jJ V hn]
  apply Array.ext'
  simp [Array.toList_extract]
 | false =>
  simp only [mkV] at hu
  simp only [Bool.false_eq_true, if_false]
  have hl : ((vs.toList.drop off).take n).length = n := by simp; omega
  match hm : (vs.toList.drop off).take n, hu with
  | [x], hu =>
   have e : x = u := by simpa using hu
   subst e
   have hn1 : n = 1 := by rw [hm] at hl; simpa using hl.symm
   subst hn1
   have hx : vs[off]? = some x := by
    have h1 : ((vs.toList.drop off).take 1)[0]? = some x := by rw [hm]; rfl
    simpa [List.getElem?_take, List.getElem?_drop] using h1
   rw [hx]; rfl
  | [], hu => simp at hu
  | _ :: _ :: _, hu => simp at hu
theorem Bk (V : ca P C) {t : TypeId} {n : Nat} {g : Bool} (hn : bP C t = some n) (hg : lP C t = some g) {x r : AV} {v : Value} (hx : AVR S w B x v) {off : Nat}
  (h : jP x off n g = some r) :
  ∃ vs, v = .agg vs ∧ ∃ val, (part t vs off).run P w = .ok val w ∧ AVR S w B r val := by
 unfold jP at h
 cases x with
 | agg cs =>
  simp only at h
  cases hx with
  | agg _ vs hl ho hv =>
   obtain ⟨ds, hd, hmk⟩ := Option.bind_eq_some_iff.1 h
   have hC : dx S w B cs vs.toList := ⟨by simpa using hl, fun j c u hj hu => ⟨ho u (Array.mem_of_getElem? (by simpa using hu)), hv j c u hj (by simpa using hu)⟩⟩
   obtain ⟨hcut, hn', hle⟩ := hC.cut hd
   obtain ⟨u, hu, hR⟩ := hcut.mk hmk
   exact ⟨vs, rfl, u, oS V hn hg (by omega) hu, hR⟩
 | d x0 =>
  cases x0 <;> simp only [reduceCtorEq] at h
  rename_i cs
  cases hx with
  | d _ _ hx =>
   cases hx with
   | agg _ vs hl ho hv =>
    obtain ⟨x', hx', rfl⟩ := Option.map_eq_some_iff.1 h
    obtain ⟨ds, hd, hmk⟩ := Option.bind_eq_some_iff.1 hx'
    have hC : bf S w cs vs.toList := ⟨by simpa using hl, fun j c u hj hu => ⟨ho u (Array.mem_of_getElem? (by simpa using hu)), hv j c u hj (by simpa using hu)⟩⟩
    obtain ⟨hcut, hn', hle⟩ := hC.cut hd
    obtain ⟨u, hu, hR⟩ := hcut.mk hmk
    exact ⟨vs, rfl, u, oS V hn hg (by omega) hu, .d _ _ hR⟩
 | _ => simp at h
end
end Go.Jv
