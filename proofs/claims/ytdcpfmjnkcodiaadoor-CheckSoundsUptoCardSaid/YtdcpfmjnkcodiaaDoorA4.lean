/- append onto a slice of the call's own. -/
import Derived.Test.YtdcpfmjnkcodiaaDoorA3
import Derived.Carry
import Derived.Maps.Own
namespace Go.Jv
section
variable {P : Program} {C : Cfg} {S0 : Nat → Prop} {L0 : Lz} {w0 : World} {S : Nat → Prop} {B : Nat → Option Pl} {H : Hs} {F : Nat → Prop} {nx : Nat} {w : World}
theorem same_grown {row : Option Nat} {w' : World} (hg : w.grownBy w' row) (hlt : ∀ b, S b → b < w.heap.size) (hrow : ∀ b, row = some b → ¬ S b) : Same S w w' :=
 fun b hb => hg.block b (hlt b hb) (fun e => hrow b e.symm hb)
theorem Mem.grown (hM : Mem C S0 L0 w0 S B H F w) (hF : F nx) {row : Option Nat} {w' : World} (hg : w.grownBy w' row)
  (hrow : ∀ b, row = some b → ¬ S b ∧ (L0 b ∨ w0.heap.size ≤ b) ∧ ∀ id p, (H id).live = true → B id = some p → p.blk ≠ b) (q : Option Pl)
  (hq : ∀ p, q = some p → row = some p.blk ∨ p.blk = w.heap.size) (h : Home) (hh : HR S w' (upd B nx q) nx h) :
  Mem C S0 L0 w0 S (upd B nx q) (upd H nx h) (took F nx (nx + 1)) w' ∧ Ext B (upd B nx q) := by
 have hE : Ext B (upd B nx q) := fun id p hp => by
  have : id ≠ nx := fun e => by subst e; rw [hM.freshB _ hF] at hp; cases hp
  simp [upd, this, hp]
 have hs := same_grown hg hM.lt (fun b hb => (hrow b hb).1)
 have hold : ∀ id, id ≠ nx → ∀ p, (H id).live = true → upd B nx q id = some p → B id = some p ∧ p.blk < w.heap.size := by
  intro id hne p hl hp
  simp only [upd, hne, if_false] at hp
  exact ⟨hp, (hM.homes id).lt hl p hp⟩
 have hnew : ∀ p, upd B nx q nx = some p → row = some p.blk ∨ p.blk = w.heap.size := fun p hp => hq p (by simpa [upd] using hp)
 have hapart : ∀ id, id ≠ nx → ∀ p p', (H id).live = true → upd B nx q id = some p → upd B nx q nx = some p' → p.blk ≠ p'.blk := by
  intro id hne p p' hl hp hp'
  obtain ⟨h1, h2⟩ := hold id hne p hl hp
  rcases hnew p' hp' with h3 | h3
  ·exact (hrow _ h3).2.2 id p hl h1
  ·omega
 refine ⟨⟨?_, ?_, ?_, ?_, ?_, ?_, ?_, hg.os.trans hM.os, hg.tape.trans hM.tape, hg.output.trans hM.output, Nat.le_trans hM.size hg.size, ?_, hM.sub, ?_, hM.sIn, ?_, fun id hid => hM.b0F id hid.1⟩, hE⟩
 ·intro id
  by_cases e : id = nx
  ·subst e; simpa [upd] using hh
  ·simp only [upd, e, if_false]
   exact (hM.homes id).mono (fun _ hb => hb) hs hE (fun _ hn => by simp [upd, e, hn])
    (fun hl p hp => hg.block _ ((hM.homes id).lt hl p hp) (fun e' => (hrow _ e'.symm).2.2 id p hl hp rfl))
 ·intro id hid
  have : id ≠ nx := by have := hid.2; omega
  simp [upd, this, hM.fresh id hid.1]
 ·intro id hid
  have : id ≠ nx := by have := hid.2; omega
  simp [upd, this, hM.freshB id hid.1]
 ·intro id id' p p' hl hl' hp hp' hne
  by_cases e : id = nx
  ·subst e
   have e' : id' ≠ id := fun h => hne h.symm
   simp only [upd, e', if_false] at hl'
   exact (hapart id' e' p' p hl' hp' hp).symm
  ·simp only [upd, e, if_false] at hl
   by_cases e' : id' = nx
   ·subst e'
    exact hapart id e p p' hl hp hp'
   ·simp only [upd, e', if_false] at hl'
    exact hM.inj id id' p p' hl hl' (hold id e p hl hp).1 (hold id' e' p' hl' hp').1 hne
 ·intro id p hl hp hS
  by_cases e : id = nx
  ·subst e
   rcases hnew p hp with h3 | h3
   ·exact (hrow _ h3).1 hS
   ·have := hM.lt _ hS; omega
  ·simp only [upd, e, if_false] at hl
   exact hM.off id p hl (hold id e p hl hp).1 hS
 ·intro b hb
  have := hM.lt b hb
  have := hg.size; omega
 ·intro g cs hc
  exact (hM.glob g cs hc).mono (fun _ h => h) hs
 ·intro b hb hl
  rw [hg.block b (by have := hM.size; omega) (fun e => by
   rcases (hrow b e.symm).2.1 with h1 | h1
   ·exact hl h1
   ·omega)]
  exact hM.keep b hb hl
 ·intro id p hl hp
  by_cases e : id = nx
  ·subst e
   rcases hnew p hp with h3 | h3
   ·exact (hrow _ h3).2.1
   ·exact .inr (by have := hM.size; omega)
  ·simp only [upd, e, if_false] at hl
   exact hM.liveIn id p hl (hold id e p hl hp).1
 ·intro id q' hq'
  have : id ≠ nx := fun e => by rw [e, hM.b0F _ hF] at hq'; cases hq'
  simp only [upd, this, if_false]
  exact hM.b0 id q' hq'
theorem RowL.app {sz : Nat} {xs ys : List Dat} {us vs : List Value} (h : RowL S w sz xs us) (k : RowL S w sz ys vs) : RowL S w sz (xs ++ ys) (us ++ vs) := by
 refine ⟨by simp [h.1, k.1, Nat.add_mul], fun i x hx => ?_⟩
 by_cases hi : i < xs.length
 ·rw [List.getElem?_append_left hi] at hx
  have hle : (i + 1) * sz ≤ xs.length * sz := Nat.mul_le_mul_right _ hi
  rw [Nat.succ_mul] at hle
  obtain ⟨h1, h2⟩ := h.2 i x hx
  refine ⟨h1, ?_⟩
  have : ((us ++ vs).drop (i * sz)).take sz = (us.drop (i * sz)).take sz := by
   rw [List.drop_append_of_le_length (by rw [h.1]; omega), List.take_append_of_le_length (by simp [h.1]; omega)]
  rw [this]; exact h2
 ·rw [List.getElem?_append_right (by omega)] at hx
  obtain ⟨h1, h2⟩ := k.2 (i - xs.length) x hx
  refine ⟨h1, ?_⟩
  have : ((us ++ vs).drop (i * sz)).take sz = (vs.drop ((i - xs.length) * sz)).take sz := by
   have e : i * sz = us.length + (i - xs.length) * sz := by rw [h.1, ← Nat.add_mul]; congr 1; omega
   rw [e, List.drop_append, List.drop_eq_nil_of_le (by omega)]
   simp
  rw [this]; exact h2
theorem RowL.nil (sz : Nat) : RowL S w sz [] [] := ⟨by simp, fun i x h => by simp at h⟩
theorem RowR.rowL {p : Pl} {arr : Array Value} {xs : List Dat} (h : RowR S w p arr xs) (lo hi : Nat) (h1 : lo ≤ hi) (h2 : hi ≤ xs.length) : RowL S w p.sz (win xs lo hi) ((arr.toList.drop (lo * p.sz)).take ((hi - lo) * p.sz)) := by
 have hwl := win_length h1 h2
 have hcap := h.2.1
 have hle : hi * p.sz ≤ p.cap * p.sz := Nat.mul_le_mul_right _ (by omega)
 have hsub : (hi - lo) * p.sz = hi * p.sz - lo * p.sz := Nat.sub_mul ..
 refine ⟨?_, fun i x hx => ?_⟩
 ·rw [hwl, List.length_take, List.length_drop, Array.length_toList, h.1]
  omega
 ·obtain ⟨hx', hi'⟩ := win_get hx
  obtain ⟨he, hz, _⟩ := h.elem hx'
  refine ⟨hz, ?_⟩
  have hle2 : (i + 1) * p.sz ≤ (hi - lo) * p.sz := Nat.mul_le_mul_right _ hi'
  rw [Nat.succ_mul] at hle2
  rw [drop_take_drop _ _ _ _ _ (by omega), ← Nat.add_mul]
  exact he
theorem RowL.pre {p : Pl} {arr : Array Value} {xs : List Dat} {us : List Value} (h : RowL S w p.sz xs us) (hu : arr.toList.take (xs.length * p.sz) = us) (hs : arr.size = p.cap * p.sz) (hc : xs.length ≤ p.cap) (hm : p.cap ≤ maxLen) : RowR S w p arr xs := by
 refine ⟨hs, hc, hm, fun i x hx => (h.2 i x hx).1, fun i x j c hx hj => ?_⟩
 obtain ⟨hz, hC⟩ := h.2 i x hx
 have hjl : j < x.cells.length := (List.getElem?_eq_some_iff.1 hj).1
 have hil : i < xs.length := (List.getElem?_eq_some_iff.1 hx).1
 have hle2 : (i + 1) * p.sz ≤ xs.length * p.sz := Nat.mul_le_mul_right _ hil
 rw [Nat.succ_mul] at hle2
 have hjl' : j < ((us.drop (i * p.sz)).take p.sz).length := by rw [← hC.1]; exact hjl
 obtain ⟨u, hv⟩ : ∃ u, ((us.drop (i * p.sz)).take p.sz)[j]? = some u := ⟨_, List.getElem?_eq_getElem hjl'⟩
 have := hC.2 j c _ hj hv
 refine ⟨_, ?_, this.1, this.2⟩
 rw [List.getElem?_take, if_pos (by omega), List.getElem?_drop, ← hu, List.getElem?_take, if_pos (by omega)] at hv
 simpa using hv
theorem addr_add (b o j : Nat) : (⟨b, o, none⟩ : Addr).add j = ⟨b, o + j, none⟩ := by
 unfold Addr.add
 split
 ·rename_i h; subst h; rfl
 ·rfl
theorem news_sound (hM : Mem C S0 L0 w0 S B H F w) {x : AV} {v : Value} (hx : AVR S w B x v) {new : List Dat} (h : see 1 H x = some (.lst new)) {sz : Nat} (hz : ∀ y ∈ new, y.cells.length = sz) :
  (v = .slice none 0 0 ∧ new = []) ∨ ∃ a c news, v = .slice (some a) new.length c ∧ c ≤ maxLen ∧ new.length ≤ c ∧ (∀ j u, news[j]? = some u → w.cell? (a.add j) = some u) ∧ RowL S w sz new news := by
 cases x with
 | d x0 =>
  simp only [see, Option.some.injEq] at h
  subst h
  cases hx with
  | d _ _ hx =>
  cases hx with
  | nil => exact .inl ⟨rfl, rfl⟩
  | emp a cap hm => exact .inr ⟨a, cap, [], rfl, hm, Nat.zero_le _, fun j u hj => by simp at hj, by simp, fun i x hx => by simp at hx⟩
  | lst _ b off cap sz' us hS hl hm hzz hc ho hv =>
   have hsz : ∀ i x, new[i]? = some x → sz' = sz := fun i x hi => (hzz i x hi).symm.trans (hz x (List.mem_of_getElem? hi))
   refine .inr ⟨⟨b, off, none⟩, cap, (List.range (new.length * sz)).map (fun k => us (k / sz) (k % sz)), rfl, hm, hl, ?_, ?_⟩
   ·intro j u hj
    obtain ⟨hj1, hj2⟩ := List.getElem?_eq_some_iff.1 hj
    simp only [List.length_map, List.length_range] at hj1
    have hpos : 0 < sz := Nat.pos_of_ne_zero (fun e => by subst e; simp at hj1)
    have hi : j / sz < new.length := (Nat.div_lt_iff_lt_mul hpos).2 hj1
    have e := hsz _ _ (List.getElem?_eq_getElem hi)
    subst e
    rw [← hj2]
    have := hc (j / sz') (j % sz') hi (Nat.mod_lt _ hpos)
    rw [Nat.mul_comm, Nat.div_add_mod] at this
    rw [addr_add]; simpa using this
   ·refine ⟨by simp, fun i x hx => ?_⟩
    have e := hsz i x hx
    subst e
    have hzx := hz x (List.mem_of_getElem? hx)
    have hi : i < new.length := (List.getElem?_eq_some_iff.1 hx).1
    have hle : (i + 1) * sz' ≤ new.length * sz' := Nat.mul_le_mul_right _ hi
    rw [Nat.succ_mul] at hle
    refine ⟨hzx, by simp [hzx]; omega, fun j c u hj hu => ?_⟩
    have hjl : j < sz' := by have := (List.getElem?_eq_some_iff.1 hj).1; omega
    rw [List.getElem?_take, if_pos hjl, List.getElem?_drop] at hu
    obtain ⟨hu1, hu2⟩ := List.getElem?_eq_some_iff.1 hu
    simp only [List.getElem_map, List.getElem_range] at hu2
    have e1 : (i * sz' + j) / sz' = i := by rw [Nat.mul_comm, Nat.mul_add_div (by omega), Nat.div_eq_of_lt hjl]; omega
    have e2 : (i * sz' + j) % sz' = j := by rw [Nat.mul_comm, Nat.mul_add_mod, Nat.mod_eq_of_lt hjl]
    rw [e1, e2] at hu2
    rw [← hu2]
    exact ⟨ho i j hi hjl, hv i x j c hx hj⟩
 | nil => simp only [see, Option.some.injEq, Dat.lst.injEq] at h; subst h; cases hx; exact .inl ⟨rfl, rfl⟩
 | sl id lo hi =>
  have key : ∀ (xs : List Dat), (∀ p, B id = some p → ∃ arr e fr, w.heap[p.blk]? = some (.cells arr e fr) ∧ RowR S w p arr xs) →
    (if lo ≤ hi ∧ hi ≤ xs.length then some (Dat.lst (win xs lo hi)) else none) = some (.lst new) →
    (v = .slice none 0 0 ∧ new = []) ∨ ∃ a c news, v = .slice (some a) new.length c ∧ c ≤ maxLen ∧ new.length ≤ c ∧ (∀ j u, news[j]? = some u → w.cell? (a.add j) = some u) ∧ RowL S w sz new news := by
   intro xs hrow h
   split at h
   ·rename_i hb
    cases h
    have hwl := win_length hb.1 hb.2
    rcases hx.slCases with ⟨rfl, rfl, rfl⟩ | ⟨p, off, c, hp, rfl, h1, h2, h3, h4, _⟩
    ·exact .inl ⟨rfl, by simp [win]⟩
    ·right
     by_cases he : lo = hi
     ·subst he
      have hnil : win xs lo lo = [] := List.eq_nil_of_length_eq_zero (by omega)
      exact ⟨⟨p.blk, off, none⟩, c, [], by rw [hnil]; simp, h3, by rw [hnil]; simp, fun j u hj => by simp at hj, by rw [hnil]; exact RowL.nil sz⟩
     ·obtain rfl := h4.resolve_right he
      obtain ⟨arr, e, fr, hb', hr⟩ := hrow p hp
      have hx0 : (win xs lo hi)[0]? = some ((win xs lo hi)[0]'(by omega)) := List.getElem?_eq_getElem _
      have hsz : p.sz = sz := by
       have h5 := (hr.elem (win_get hx0).1).2.1
       have h6 := hz _ (List.mem_of_getElem? hx0)
       omega
      have hL := hr.rowL lo hi hb.1 hb.2
      refine ⟨_, c, _, by rw [hwl], h3, by omega, ?_, by rw [← hsz]; exact hL⟩
      intro j u hj
      rw [List.getElem?_take] at hj
      split at hj
      ·rw [List.getElem?_drop] at hj
       rw [addr_add, cell_of_row w p.blk _ arr e fr hb']
       simpa using hj
      ·cases hj
   ·cases h
  have hh := hM.homes id
  cases hH : H id with
  | own z xs =>
   rw [hH] at hh
   simp only [see, hH] at h
   refine key xs (fun p hp => ?_) h
   cases hh with
   | own _ p' arr e hp' hb hr => rw [hp'] at hp; cases hp; exact ⟨arr, e, _, hb, hr⟩
   | ownz _ hn => rw [hn] at hp; cases hp
  | imm z xs =>
   rw [hH] at hh
   simp only [see, hH] at h
   refine key xs (fun p hp => ?_) h
   cases hh with
   | imm _ p' arr e fr hp' hS hb hr => rw [hp'] at hp; cases hp; exact ⟨arr, e, _, hb, hr⟩
   | immz _ hn => rw [hn] at hp; cases hp
  | box cs => simp [see, hH] at h
  | immb cs => simp [see, hH] at h
  | dead => simp [see, hH] at h
  | map es => simp [see, hH] at h
 | undef => simp [see] at h
 | pt id off =>
  simp only [see] at h
  split at h <;> simp at h
 | pe id i j => simp [see] at h
 | agg cs => simp [see] at h
 | tup cs => simp [see] at h
 | fn f cs => simp [see] at h
 | bad => simp [see] at h
 | mp id => simp [see] at h
theorem elemT_sound (V : Valid P C) {t el : TypeId} (ht : elemT C t = some el) : P.underlying t = some (.slice el) := by
 unfold elemT at ht
 split at ht
 ·rename_i y hy
  split at ht
  ·rename_i e' hd
   cases ht
   exact (V.ty t y hy).1.trans (by rw [hd])
  ·cases ht
 ·cases ht
theorem base_sound (hM : Mem C S0 L0 w0 S B H F w) {x : AV} {v : Value} (hx : AVR S w B x v) {e : TypeId} {sz : Nat} {xs : List Dat} {H1 : Hs}
  (h : baseA H ⟨e, sz⟩ x = some (xs, H1)) :
  Mem C S0 L0 w0 S B H1 F w ∧ ∃ us, w.ownsRow 0 e sz v xs.length us ∧ RowL S w sz xs us ∧
   ∀ b, v.ownBlock = some b → ¬ S b ∧ (L0 b ∨ w0.heap.size ≤ b) ∧ ∀ id p, (H1 id).live = true → B id = some p → p.blk ≠ b := by
 cases x <;> simp only [baseA, reduceCtorEq] at h
 ·cases h
  cases hx
  exact ⟨hM, [], World.ownsRow_nil w 0 e sz, RowL.nil sz, fun b hb => by simp [Value.ownBlock] at hb⟩
 ·rename_i id lo hi
  split at h
  ·rename_i z ys hH
   split at h
   ·rename_i hc
    obtain ⟨rfl, hle, rfl⟩ := hc
    cases h
    refine ⟨hM.drop id, ?_⟩
    have hlen : (ys.take hi).length = hi := by simp; omega
    rcases hx.slCases with ⟨_, rfl, rfl⟩ | ⟨p, off, c, hp, rfl, h1, h2, h3, h4, h5⟩
    ·exact ⟨[], by simpa using World.ownsRow_nil w 0 e sz, by simpa using RowL.nil sz, fun b hb => by simp [Value.ownBlock] at hb⟩
    ·obtain ⟨rfl, rfl, h6⟩ := h5 rfl
     have hh := hM.homes id
     rw [hH] at hh
     cases hh with
     | ownz _ hn => rw [hn] at hp; cases hp
     | own _ p' arr _ hp' hb hr =>
      rw [hp'] at hp
      cases hp
      have hL := hr.rowL 0 hi (Nat.zero_le _) hle
      simp only [win, List.drop_zero, Nat.sub_zero, Nat.zero_mul] at hL
      refine ⟨_, ?_, hL, ?_⟩
      ·rw [hlen]
       exact ⟨by rw [hL.1, hlen], .inr ⟨p.blk, p.cap, arr, by simp, Nat.zero_le _, hb, h6, h3, hr.1, rfl⟩⟩
      ·intro b hb'
       simp only [Value.ownBlock, Option.some.injEq] at hb'
       subst hb'
       refine ⟨hM.off id p (by rw [hH]; rfl) hp', hM.liveIn id p (by rw [hH]; rfl) hp', fun j q hl hq => ?_⟩
       have hj : j ≠ id := fun e => by subst e; simp [upd, Home.live] at hl
       simp only [upd, hj, if_false] at hl
       exact hM.inj j id q p hl (by rw [hH]; rfl) hq hp' hj
   ·cases h
  ·cases h
theorem append_step (V : Valid P C) (hM : Mem C S0 L0 w0 S B H F w) (hF : F nx) {ts tx ty : TypeId} {s x r : AV} {sv xv : Value} (hs : AVR S w B s sv) (hx : AVR S w B x xv) {H1 : Hs} {n1 : Nat}
  (h : appendA C H nx ts tx s x = some (r, H1, n1)) :
  StepR C S0 L0 w0 S B F nx w ((do pure (.value (← Builtin.append_ #[ts, tx] ty #[sv, xv])) : Sem Next).run P w) r H1 n1 := by
 unfold appendA at h
 split at h
 ·rename_i htt
  subst htt
  split at h
  ·cases h
  ·rename_i e hte
   split at h
   ·cases h
   ·rename_i ye hye
    have hun := elemT_sound V hte
    obtain ⟨_, i, z, hi, hsz, hby, hz, hzr⟩ := V.ty e ye hye
    split at h
    ·rename_i xs H2 new hb hn
     split at h
     ·rename_i hc
      cases h
      obtain ⟨hall, hpos, hbp, hbytes⟩ := hc
      have hall' : ∀ y ∈ new, y.cells.length = ye.size := fun y hy => by simpa using List.all_eq_true.1 hall y hy
      obtain ⟨hM2, us, hown, hL, hrow⟩ := base_sound hM hs hb
      have hmax : xs.length + new.length ≤ maxLen := by
       have : (xs.length + new.length) * 1 ≤ (xs.length + new.length) * ye.bytes := Nat.mul_le_mul_left _ hbp
       simp only [maxLen]; omega
      -- what the call leaves, in every case
      have key : ∃ v' w' news, (Builtin.append_ #[ts, ts] ty #[sv, xv]).run P w = .ok v' w' ∧ w'.ownsRow 0 e ye.size v' (xs.length + new.length) (us ++ news) ∧ w.grownBy w' sv.ownBlock ∧
        (v'.ownBlock = sv.ownBlock ∨ v'.ownBlock = some w.heap.size) ∧ RowL S w ye.size new news := by
       rcases news_sound hM hx hn hall' with ⟨rfl, rfl⟩ | ⟨a, c, news, rfl, hcm, hcl, hcells, hLn⟩
       ·exact ⟨sv, w, [], run_append_owned_none w 0 ts ty e i ye.size hun hi sv xs.length us hown, by simpa using hown, ⟨rfl, rfl, rfl, Nat.le_refl _, fun _ _ _ => rfl⟩, .inl rfl, RowL.nil _⟩
       ·have hone : ∀ u ∈ news, u.oneCell' = true := by
         intro u hu
         obtain ⟨k, hk⟩ := List.getElem?_of_mem hu
         have hkl : k < news.length := (List.getElem?_eq_some_iff.1 hk).1
         rw [hLn.1] at hkl
         have hdi : k / ye.size < new.length := (Nat.div_lt_iff_lt_mul hpos).2 hkl
         obtain ⟨_, hC⟩ := hLn.2 _ _ (List.getElem?_eq_getElem hdi)
         refine hC.one u (List.mem_of_getElem? (i := k % ye.size) ?_)
         rw [List.getElem?_take, if_pos (Nat.mod_lt _ hpos), List.getElem?_drop, Nat.mul_comm, Nat.div_add_mod]
         exact hk
        obtain ⟨v', w', h1, h2, h3, _, h5⟩ := run_append_own_at (P := P) w 0 ts ty e i z ye.size ye.bytes hun hi hz hsz hby hzr.1 hpos sv xs.length us hown a new.length c news hLn.1 hcells hone hmax hbytes (Nat.zero_le _)
        exact ⟨v', w', news, h1, h2, h3, h5, hLn⟩
      obtain ⟨v', w', news, hrun, hown', hgr, hat, hLn⟩ := key
      have hsame := same_grown hgr hM.lt (fun b hb => (hrow b hb).1)
      have hLall := (hL.app hLn).mono (fun _ h => h) hsame
      rcases hown'.2 with ⟨rfl, h0⟩ | ⟨g, cap, cur, rfl, _, hg, hnc, hcm, hcs, htake⟩
      ·have hx0 : xs = [] := List.eq_nil_of_length_eq_zero (by omega)
       have hn0 : new = [] := List.eq_nil_of_length_eq_zero (by omega)
       subst hx0 hn0
       have hBn : upd B nx none nx = none := by simp [upd]
       obtain ⟨hM3, hE⟩ := hM2.grown hF hgr hrow none (fun p hp => by cases hp) (.own ⟨e, ye.size⟩ []) (.ownz _ hBn)
       exact ⟨_, _, S, _, .inl (by simp [hrun]), .slz nx, by simpa using hM3, fun _ h => h, hsame, hE⟩
      ·have hq : ∀ p : Pl, some (⟨g, ye.size, cap⟩ : Pl) = some p → sv.ownBlock = some p.blk ∨ p.blk = w.heap.size := by
        intro p hp
        cases hp
        rcases hat with h1 | h1
        ·exact .inl h1.symm
        ·exact .inr (by simpa [Value.ownBlock] using h1)
       obtain ⟨hM3, hE⟩ := hM2.grown hF hgr hrow (some ⟨g, ye.size, cap⟩) hq (.own ⟨e, ye.size⟩ (xs ++ new))
        (.own _ ⟨g, ye.size, cap⟩ cur e (by simp [upd]) hg (RowL.pre (p := ⟨g, ye.size, cap⟩) hLall (by simpa using htake) hcs (by simpa using hnc) hcm))
       refine ⟨.slice (some ⟨g, 0, none⟩) (xs.length + new.length) cap, w', S, _, .inl (by simp [hrun]), ?_, hM3, fun _ h => h, hsame, hE⟩
       simpa using AVR.sl (S := S) (w := w') (B := upd B nx (some ⟨g, ye.size, cap⟩)) nx 0 (xs.length + new.length) ⟨g, ye.size, cap⟩ (by simp [upd]) (Nat.zero_le _) hnc (.inl rfl) hcm
     ·cases h
    ·cases h
 ·cases h
end
end Go.Jv
namespace Go.Jv
section
variable {P : Program} {C : Cfg} {S0 : Nat → Prop} {L0 : Lz} {w0 : World} {S : Nat → Prop} {B : Nat → Option Pl} {H : Hs} {F : Nat → Prop} {nx : Nat} {w : World}
theorem mapT_under (V : Valid P C) {t k e : TypeId} (h : mapT C t = some (k, e)) : P.underlying t = some (.map k e) := by
 unfold mapT at h
 split at h
 ·rename_i y hy
  split at h
  ·rename_i k' e' hd
   cases h
   rw [(V.ty t y hy).1, hd]
  ·cases h
 ·cases h
inductive Kd : TypeDesc → Dat → Value → Prop where
 | int (q k : IntKind) (n : Int) : Kd (.int q) (.int k n) (.int k n)
 | str (s : ByteArray) : Kd .string (.str s) (.string s)
 | bool (b : Bool) : Kd .bool (.bool b) (.bool b)
theorem key_kd (V : Valid P C) {k : TypeId} {x : Dat} {v : Value} (h : keyOk C k x = true) (hv : VR S w x v) : ∃ d, P.underlying k = some d ∧ Kd d x v := by
 unfold keyOk at h
 cases hy : C.ty k with
 | none => simp [hy] at h
 | some y =>
  simp only [hy, Option.map_some] at h
  refine ⟨y.desc, (V.ty k y hy).1, ?_⟩
  split at h
  ·rename_i q k' n hd
   simp only [Option.some.injEq] at hd
   rw [hd]; cases hv; exact .int ..
  ·rename_i s hd
   simp only [Option.some.injEq] at hd
   rw [hd]; cases hv; exact .str ..
  ·rename_i b hd
   simp only [Option.some.injEq] at hd
   rw [hd]; cases hv; exact .bool ..
  ·cases h
theorem Kd.keyV {d : TypeDesc} {x : Dat} {v : Value} (h : Kd d x v) : keyV x = some v := by cases h <;> rfl
theorem Kd.check {d : TypeDesc} {x : Dat} {v : Value} {k : TypeId} (h : Kd d x v) (hu : P.underlying k = some d) (em : Bool) : (Instr.checkKey em 10000 k v).run P w = .ok () w := by
 have key : ∀ n, (Instr.checkKey em (n + 1) k v).run P w = .ok () w := fun n => by cases h <;> simp [Instr.checkKey, run_underlying hu]
 exact key 9999
theorem Kd.same {d : TypeDesc} {x q : Dat} {v qv : Value} {b : Bool} (h : Kd d x v) (hs : sameD x q = some b) (hq : Go.Jv.keyV q = some qv) : Instr.sameNow d v qv = some b := by
 cases h <;> cases q <;> simp_all [sameD, Go.Jv.keyV] <;> subst hq <;> simp_all [Instr.sameNow]
def EntR (S : Nat → Prop) (w : World) (es : List (Dat × Dat)) (as : List MapEntry) : Prop :=
 as.length = es.length ∧ ∀ (j : Nat) k v, es[j]? = some (k, v) → ∃ a, as[j]? = some a ∧ keyV k = some a.key ∧ VR S w v a.val
theorem find_sound {d : TypeDesc} {x : Dat} {kv : Value} (hk : Kd d x kv) : ∀ (es : List (Dat × Dat)) (as : List MapEntry) (i : Nat) (r : Option (Nat × Dat)), EntR S w es as → findD x es i = some r →
  match r with
  | none => Instr.findNow d kv as i = some none
  | some (n, v) => ∃ j a q, n = i + j ∧ es[j]? = some (q, v) ∧ as[j]? = some a ∧ sameD x q = some true ∧ keyV q = some a.key ∧ VR S w v a.val ∧ Instr.findNow d kv as i = some (some (n, a.val))
 | [], as, i, r, hE, h => by
  have : as = [] := by simpa using hE.1
  subst this
  simp only [findD, Option.some.injEq] at h
  subst h
  rfl
 | (q, v) :: es, as, i, r, hE, h => by
  match as, hE with
  | [], hE => exact absurd hE.1 (by simp)
  | a :: as, hE =>
   obtain ⟨a', h1, h2, h3⟩ := hE.2 0 q v rfl
   obtain rfl : a = a' := by simpa using h1
   have hE' : EntR S w es as := ⟨by simpa using hE.1, fun j k v hj => by simpa using hE.2 (j + 1) k v (by simpa using hj)⟩
   simp only [findD] at h
   split at h
   ·rename_i hs
    cases h
    exact ⟨0, a, q, rfl, rfl, rfl, hs, h2, h3, by simp [Instr.findNow, hk.same hs h2]⟩
   ·rename_i hs
    have ih := find_sound hk es as (i + 1) r hE' h
    have hn : Instr.findNow d kv (a :: as) i = Instr.findNow d kv as (i + 1) := by simp [Instr.findNow, hk.same hs h2]
    cases r with
    | none => exact hn.trans ih
    | some r =>
     obtain ⟨n, v'⟩ := r
     obtain ⟨j, a', q', h4, h5, h6, h7, h8, h9, h10⟩ := ih
     exact ⟨j + 1, a', q', by omega, by simpa using h5, by simpa using h6, h7, h8, h9, hn.trans h10⟩
   ·cases h
theorem HR.mapE {id : Nat} {es : List (Dat × Dat)} (h : HR S w B id (.map es)) : ∃ p arr clock, B id = some p ∧ w.heap[p.blk]? = some (.map arr clock) ∧ EntR S w es arr.toList := by
 cases h with
 | map _ p arr clock hp hb hl hv => exact ⟨p, arr, clock, hp, hb, by simpa using hl, fun j k v hj => by obtain ⟨a, h1, h2⟩ := hv j k v hj; exact ⟨a, by simpa using h1, h2⟩⟩
theorem zero_val (V : Valid P C) {e : TypeId} {z : Dat} (h : zeroD C e = some z) : ∃ v, (zeroValue e).run P w = .ok v w ∧ VR S w z v := by
 unfold zeroD at h
 cases hy : C.ty e with
 | none => simp [hy] at h
 | some y =>
  simp only [hy] at h
  obtain ⟨_, i, v, hi, hsz, hby, hz, hzr⟩ := V.ty e y hy
  refine ⟨v, by simp [zeroValue, typeInfo, hi, hz], ?_⟩
  have hc := ZeroR.cells (S := S) (w := w) (B := fun _ => none) hzr
  split at h
  ·rename_i cs hcs
   have hA : AVR S w (fun _ => none) (.agg y.zero) (.agg v.cells) := .agg _ _ (by simpa using hc.1) (fun u hu => hc.one u (by simpa using hu)) (fun j c u hj hu => (hc.2 j c u hj (by simpa using hu)).2)
   have hV : VR S w (.agg cs) (.agg v.cells) := datA_sound hA (by simp only [datA, hcs]; rfl)
   unfold mkD at h
   split at h
   ·rename_i ha
    cases h
    rw [hzr.2.2.2.2.1 ha]; exact hV
   ·rename_i ha
    have hna := hzr.2.2.2.2.2 (by simpa using ha)
    split at h
    ·cases h
     have e1 : v.cells = #[v] := by
      cases v <;> first | rfl | exact absurd rfl (hna.2 _)
     rw [e1] at hV
     cases hV with
     | agg _ _ hl ho hv => exact hv 0 z v rfl rfl
    ·cases h
  ·cases h
theorem lookup_sound (V : Valid P C) (hM : Mem C S0 L0 w0 S B H F w) {t : TypeId} {m x r : AV} {mv xv : Value} {ok : Bool} (hm : AVR S w B m mv) (hx : AVR S w B x xv) (h : lookupA C H t m x ok = some r) :
  ∃ v, (Instr.lookup t mv xv ok).run P w = .ok v w ∧ AVR S w B r v := by
 unfold lookupA at h
 split at h
 ·rename_i id key k e hd hmt
  split at h
  ·rename_i es hH
   split at h
   ·rename_i hk
    cases hm with
    | mp _ p hp =>
     have hh := hM.homes id
     rw [hH] at hh
     obtain ⟨q, arr, clock, hq, hb, hE⟩ := hh.mapE
     obtain rfl : q = p := by rw [hq] at hp; exact Option.some.inj hp
     have hkv := datA_sound hx hd
     obtain ⟨d, hu, hK⟩ := key_kd V hk hkv
     have hmu := mapT_under V hmt
     have fin : ∀ (z : Dat) (zv : Value) (b : Bool), VR S w z zv → some (if ok then AV.tup [.d z, .d (.bool b)] else .d z) = some r → AVR S w B r (if ok then .tuple #[zv, .bool b] else zv) := by
      intro z zv b hz hr
      cases hr
      cases ok
      ·exact .d _ _ hz
      ·refine .tup _ _ rfl fun j c u hj hu => ?_
       match j with
       | 0 => simp at hj hu; subst hj hu; exact .d _ _ hz
       | 1 => simp at hj hu; subst hj hu; exact .d _ _ (.bool b)
       | j + 2 => simp at hj
     split at h
     ·rename_i n v hf
      obtain ⟨j, a, q', h4, h5, h6, h7, h8, h9, h10⟩ := find_sound hK es arr.toList 0 _ hE hf
      refine ⟨_, ?_, fin v a.val true h9 h⟩
      cases ok <;> simp [Instr.lookup, run_underlying hmu, MapKept.run_getObj_map hb, hK.check hu, Instr.findKey, run_underlying hu, h10, Result.andThen]
     ·rename_i hf hz
      have h10 := find_sound hK es arr.toList 0 _ hE hf
      obtain ⟨zv, hzr, hzv⟩ := zero_val (S := S) (w := w) V hz
      refine ⟨_, ?_, fin _ zv false hzv h⟩
      cases ok <;> simp [Instr.lookup, run_underlying hmu, MapKept.run_getObj_map hb, hK.check hu, Instr.findKey, run_underlying hu, h10, hzr, Result.andThen]
     ·cases h
   ·cases h
  ·cases h
 ·cases h
theorem Kd.same_key {d : TypeDesc} {x q : Dat} {v qv : Value} (h : Kd d x v) (hs : sameD x q = some true) (hq : Go.Jv.keyV q = some qv) : qv = v := by
 cases h <;> cases q <;> simp_all [sameD, Go.Jv.keyV, MapKept.bytes_beq]
theorem Kd.stays {d : TypeDesc} {x : Dat} {v : Value} (h : Kd d x v) : (Instr.keyThatStays v v).run P w = .ok v w := by
 have e : ∀ s : ByteArray, (s == s) = true := fun s => (MapKept.bytes_beq s s).2 rfl
 cases h <;> simp [Instr.keyThatStays, Instr.sameBits, e]
theorem VR.set {b : Nat} {o : Obj} {x : Dat} {v : Value} (h : VR S w x v) (hb : ¬ S b) : VR S { w with heap := w.heap.setIfInBounds b o } x v :=
 h.mono (fun _ h => h) fun c hc => by
  have : b ≠ c := fun e => hb (e ▸ hc)
  simp [Array.getElem?_setIfInBounds_ne this]
theorem update_sound (V : Valid P C) (hM : Mem C S0 L0 w0 S B H F w) {t : TypeId} {m x v : AV} {mv xv vv : Value} (hm : AVR S w B m mv) (hx : AVR S w B x xv) (hv : AVR S w B v vv) {H1 : Hs} (h : mapUpdA C H t m x v = some H1) :
  ∃ w1 S1, (Instr.mapUpdate t mv xv vv).run P w = .ok () w1 ∧ Mem C S0 L0 w0 S1 B H1 F w1 ∧ (∀ b, S b → S1 b) ∧ Same S w w1 := by
 unfold mapUpdA at h
 split at h
 ·rename_i id key k e d H2 hd hmt hfz
  split at h
  ·rename_i es hH
   split at h
   ·rename_i hk
    obtain ⟨es1, hput, rfl⟩ := Option.map_eq_some_iff.1 h
    cases hm with
    | mp _ p hp =>
     have hkv := datA_sound hx hd
     obtain ⟨S1, hM1, hS1, hxd, _⟩ := frz_sound 4 hM hv hfz
     have hh := hM1.homes id
     rw [hH] at hh
     obtain ⟨q, arr, clock, hq, hb, hE⟩ := hh.mapE
     obtain rfl : q = p := by rw [hq] at hp; exact Option.some.inj hp
     obtain ⟨dd, hu, hK⟩ := key_kd V hk hkv
     have hmu := mapT_under V hmt
     have hl : (H2 id).live = true := by rw [hH]; rfl
     have hoff := hM1.off id q hl hq
     have fin : ∀ (arr' : Array MapEntry) (clock' : Nat), EntR S1 w es1 arr'.toList → (Instr.mapUpdate t (.map (some q.blk)) xv vv).run P w = .ok () { w with heap := w.heap.setIfInBounds q.blk (.map arr' clock') } →
       ∃ w1 S1, (Instr.mapUpdate t (.map (some q.blk)) xv vv).run P w = .ok () w1 ∧ Mem C S0 L0 w0 S1 B (upd H2 id (.map es1)) F w1 ∧ (∀ b, S b → S1 b) ∧ Same S w w1 := by
      intro arr' clock' hE' hrun
      have hblt : q.blk < w.heap.size := (Array.getElem?_eq_some_iff.1 hb).1
      have hother : ∀ b, b ≠ q.blk → ({ w with heap := w.heap.setIfInBounds q.blk (.map arr' clock') } : World).heap[b]? = w.heap[b]? := fun b hne => by
       simp [Array.getElem?_setIfInBounds_ne (Ne.symm hne)]
      refine ⟨_, S1, hrun, hM1.write id q hl hq (.map es1) rfl rfl rfl (by simp) hother rfl ?_, hS1, fun b hb' => hother b (fun e => hoff (e ▸ hS1 b hb'))⟩
      refine .map es1 q arr' clock' hq (by simp [hblt]) (by simpa using hE'.1) fun j k v hj => ?_
      obtain ⟨a, h1, h2, h3⟩ := hE'.2 j k v hj
      exact ⟨a, by simpa using h1, h2, h3.set hoff⟩
     unfold mapPut at hput
     split at hput
     ·rename_i n v0 hf
      cases hput
      obtain ⟨j, a, q', h4, h5, h6, h7, h8, h9, h10⟩ := find_sound hK es arr.toList 0 _ hE hf
      have hn : n = j := by omega
      subst hn
      have hak : a.key = xv := hK.same_key h7 h8
      have hja : arr[n]? = some a := by simpa using h6
      refine fin (arr.modify n fun e => { e with key := xv, val := vv }) clock ⟨by simpa using hE.1, fun j k v hj => ?_⟩ ?_
      ·by_cases e1 : j = n
       ·subst e1
        have hlt : j < es.length := (List.getElem?_eq_some_iff.1 h5).1
        rw [List.getElem?_set_self hlt] at hj
        cases hj
        refine ⟨{ a with key := xv, val := vv }, ?_, hK.keyV, hxd⟩
        rw [Array.getElem?_toList, Array.getElem?_modify, if_pos rfl, hja]; rfl
       ·rw [List.getElem?_set_ne (fun e => e1 e.symm)] at hj
        obtain ⟨a', h1, h2⟩ := hE.2 j k v hj
        refine ⟨a', ?_, h2⟩
        rw [Array.getElem?_toList, Array.getElem?_modify, if_neg (fun e => e1 e.symm)]
        simpa using h1
      ·simp [Instr.mapUpdate, run_underlying hmu, MapKept.run_getObj_map hb, hK.check hu, Instr.findKey, run_underlying hu, h10, hja, hak, hK.stays, MapKept.run_setObj_map _ hb, Result.andThen]
     ·rename_i hf
      cases hput
      have h10 := find_sound hK es arr.toList 0 _ hE hf
      refine fin (arr.push ⟨xv, vv, clock⟩) (clock + 1) ⟨by simpa using hE.1, fun j k v hj => ?_⟩ ?_
      ·by_cases e1 : j < es.length
       ·rw [List.getElem?_append_left e1] at hj
        obtain ⟨a', h1, h2⟩ := hE.2 j k v hj
        refine ⟨a', ?_, h2⟩
        have : j < arr.toList.length := by rw [hE.1]; exact e1
        rw [Array.toList_push, List.getElem?_append_left this]; exact h1
       ·rw [List.getElem?_append_right (by omega)] at hj
        have e2 : j - es.length = 0 := by
         refine Classical.byContradiction fun hn => ?_
         obtain ⟨k', hk'⟩ : ∃ k', j - es.length = k' + 1 := ⟨j - es.length - 1, by omega⟩
         rw [hk'] at hj; simp at hj
        rw [e2] at hj
        simp at hj
        obtain ⟨rfl, rfl⟩ := hj
        refine ⟨⟨xv, vv, clock⟩, ?_, hK.keyV, hxd⟩
        have e3 : j = arr.toList.length := by rw [hE.1]; omega
        rw [Array.toList_push, e3]; simp
      ·simp [Instr.mapUpdate, run_underlying hmu, MapKept.run_getObj_map hb, hK.check hu, Instr.findKey, run_underlying hu, h10, MapKept.run_setObj_map _ hb, Result.andThen]
     ·cases hput
   ·cases h
  ·cases h
 ·cases h
theorem makeMap_step (hM : Mem C S0 L0 w0 S B H F w) (hF : F nx) {t : TypeId} :
  StepR C S0 L0 w0 S B F nx w ((do pure (.value (← Instr.makeMap t none)) : Sem Next).run P w) (.mp nx) (upd H nx (.map [])) (nx + 1) := by
 have hE := hM.ext_new hF ⟨w.heap.size, 1, 0⟩
 have hs := same_alloc (w := w) hM.lt (.map #[] 0)
 refine ⟨_, _, S, upd B nx (some ⟨w.heap.size, 1, 0⟩), .inl (by simp [RowKit.run_makeMap]), .mp nx ⟨w.heap.size, 1, 0⟩ (by simp [upd]), hM.new hF _ _ 1 0 ?_, fun _ h => h, hs, hE⟩
 exact .map [] ⟨w.heap.size, 1, 0⟩ #[] 0 (by simp [upd]) (heap_alloc_new w _) rfl (fun j k v hj => by simp at hj)
end
end Go.Jv
namespace Go.Jv
section
variable {P : Program} {C : Cfg} {S0 : Nat → Prop} {L0 : Lz} {w0 : World} {S : Nat → Prop} {B : Nat → Option Pl} {H : Hs} {F : Nat → Prop} {nx : Nat} {w : World}
theorem StepR.pureV (hM : Mem C S0 L0 w0 S B H F w) {x : AV} {v : Value} (hv : AVR S w B x v) : StepR C S0 L0 w0 S B F nx w ((pure (.value v) : Sem Next).run P w) x H nx :=
 ⟨v, w, S, B, .inl (by simp), hv, hM.weak (fun _ h => h.1), fun _ h => h, fun _ _ => rfl, Ext.refl _⟩
theorem lenA_sound (V : Valid P C) {t ty : TypeId} {x : AV} {v : Value} {n : Int} (hx : AVR S w B x v) (h : lenA C t x = some n) : (Builtin.len_ #[t] ty #[v]).run P w = .ok (.int .i64 n) w := by
 unfold lenA at h
 cases hy : C.ty t with
 | none => simp [hy] at h
 | some y =>
  simp only [hy] at h
  obtain ⟨hu, _⟩ := V.ty t y hy
  split at h
  ·rename_i s hd
   cases h
   rw [hd] at hu
   have := hx.dV.strV
   subst this
   simp [Builtin.len_, run_underlying hu, goInt]
  ·rename_i e xs hd
   cases h
   rw [hd] at hu
   have hv := hx.dV
   cases hv <;> simp [Builtin.len_, run_underlying hu, goInt]
  ·rename_i e id lo hi hd
   cases h
   rw [hd] at hu
   rcases hx.slCases with ⟨rfl, rfl, rfl⟩ | ⟨p, off, c, hp, rfl, _⟩ <;> simp [Builtin.len_, run_underlying hu, goInt]
  ·rename_i e hd
   cases h
   rw [hd] at hu
   cases hx
   simp [Builtin.len_, run_underlying hu, goInt]
  ·rename_i m e _ hd
   cases h
   rw [hd] at hu
   simp [Builtin.len_, run_underlying hu, goInt]
  ·cases h
theorem AVR.intV {k : IntKind} {n : Int} {v : Value} (h : AVR S w B (.d (.int k n)) v) : v = .int k n := h.dV.intV
theorem fieldOf_sound (V : Valid P C) {t : TypeId} {i : Nat} {fd : Field} (h : fieldOf C t i = some fd) : ∃ fs, P.underlying t = some (.struct fs) ∧ fs[i]? = some fd := by
 unfold fieldOf at h
 split at h
 ·rename_i y hy
  split at h
  ·rename_i fs hd
   exact ⟨fs, (V.ty t y hy).1.trans (by rw [hd]), h⟩
  ·cases h
 ·cases h
theorem indexA_sound (V : Valid P C) {t : TypeId} {x i r : AV} {v iv : Value} (hx : AVR S w B x v) (hi : AVR S w B i iv) (h : indexA C t x i = some r) :
  ∃ val, (Instr.index t v iv).run P w = .ok val w ∧ AVR S w B r val := by
 unfold indexA at h
 split at h
 ·cases h
 ·rename_i n hn
  obtain ⟨k, rfl⟩ := intOfA_sound hi hn
  split at h
  ·cases h
  ·rename_i h0
   split at h
   ·rename_i s
    split at h
    ·rename_i y hy
     split at h
     ·rename_i hd
      obtain ⟨b, hb, rfl⟩ := Option.map_eq_some_iff.1 h
      have hu := (V.ty t y hy).1
      rw [hd] at hu
      have := hx.dV.strV
      subst this
      refine ⟨.int .u8 b.toNat, ?_, .d _ _ (.int ..)⟩
      have h0' : 0 ≤ n := by omega
      simp [Instr.index, asIntOf, run_underlying hu, h0', hb]
     ·cases h
    ·cases h
   ·unfold arrT at h
    cases hy : C.ty t with
    | none => simp [hy] at h
    | some y =>
     simp only [hy] at h
     cases hd : y.desc with
     | array len e =>
      simp only [hd] at h
      have hu := (V.ty t y hy).1
      rw [hd] at hu
      split at h
      ·rename_i z g hz hg
       split at h
       ·rename_i hlt
        obtain ⟨vs, rfl, val, hrun, hR⟩ := part_sound V hz hg hx h
        refine ⟨val, ?_, hR⟩
        have h0' : 0 ≤ n := by omega
        simp [Instr.index, asIntOf, run_underlying hu, h0', hlt, run_sizeT V hz, hrun]
       ·cases h
      ·cases h
     | _ => simp [hd] at h
theorem max_sound {as : List AV} {vs : List Value} {r : AV} (hl : as.length = vs.length) (hv : ∀ (i : Nat) a v, as[i]? = some a → vs[i]? = some v → AVR S w B a v) (ts : Array TypeId) (ty : TypeId)
  (h : maxA as = some r) : ∃ val, (Builtin.max_ ts ty vs.toArray).run P w = .ok val w ∧ AVR S w B r val := by
 unfold maxA at h
 split at h
 ·rename_i k a k' b
  split at h
  ·cases h
   match vs, hl with
   | [u, v], _ =>
    have h1 := (hv 0 _ _ rfl rfl).intV
    have h2 := (hv 1 _ _ rfl rfl).intV
    subst h1 h2
    exact ⟨_, by simp [Builtin.max_, Builtin.max2], .d _ _ (.int ..)⟩
  ·cases h
 ·cases h
theorem min_sound {as : List AV} {vs : List Value} {r : AV} (hl : as.length = vs.length) (hv : ∀ (i : Nat) a v, as[i]? = some a → vs[i]? = some v → AVR S w B a v) (ts : Array TypeId) (ty : TypeId)
  (h : minA as = some r) : ∃ val, (Builtin.min_ ts ty vs.toArray).run P w = .ok val w ∧ AVR S w B r val := by
 unfold minA at h
 split at h
 ·rename_i k a k' b
  split at h
  ·cases h
   match vs, hl with
   | [u, v], _ =>
    have h1 := (hv 0 _ _ rfl rfl).intV
    have h2 := (hv 1 _ _ rfl rfl).intV
    subst h1 h2
    exact ⟨_, by simp [Builtin.min_, Builtin.min2], .d _ _ (.int ..)⟩
  ·cases h
 ·cases h
theorem field_sound (V : Valid P C) {t : TypeId} {f : Nat} {fd : Field} (hf : fieldOf C t f = some fd) {n : Nat} {g : Bool} (hn : sizeT C fd.type = some n) (hg : aggT C fd.type = some g) {x r : AV} {v : Value} (hx : AVR S w B x v)
  (h : partA x fd.offset n g = some r) :
  ∃ val, (Instr.field t v f).run P w = .ok val w ∧ AVR S w B r val := by
 obtain ⟨fs, hu, hfs⟩ := fieldOf_sound V hf
 obtain ⟨vs, rfl, val, hrun, hR⟩ := part_sound V hn hg hx h
 exact ⟨val, by simp [Instr.field, run_underlying hu, hfs, asAgg, hrun], hR⟩
theorem fieldAddr_sound (V : Valid P C) {t : TypeId} {f : Nat} {fd : Field} (hf : fieldOf C t f = some fd) (hz : ¬ (sizeT C fd.type = some 0 ∨ sizeT C fd.type = none)) {x r : AV} {v : Value} (hx : AVR S w B x v)
  (h : addA x fd.offset = some r) :
  ∃ val, (Instr.fieldAt t v f).run P w = .ok val w ∧ AVR S w B r val := by
 obtain ⟨fs, hu, hfs⟩ := fieldOf_sound V hf
 cases hsz : sizeT C fd.type with
 | none => simp [hsz] at hz
 | some n =>
  have hn : n ≠ 0 := fun e => hz (.inl (by rw [hsz, e]))
  have hrun : ∀ b o, (Instr.fieldAt t (.pointer (some ⟨b, o, none⟩)) f).run P w = .ok (.pointer (some ⟨b, o + fd.offset, none⟩)) w := by
   intro b o
   simp [Instr.fieldAt, run_underlying hu, hfs, Instr.sureAddr, fieldPlace, run_sizeT V hsz, hn, addr_add]
  unfold addA at h
  cases x with
  | pt id o => cases h; cases hx with | pt _ _ p hp => exact ⟨_, hrun _ _, .pt _ _ p hp⟩
  | pe id i j => cases h; cases hx with | pe _ _ _ p hp => exact ⟨_, hrun _ _, by rw [Nat.add_assoc]; exact .pe _ _ _ p hp⟩
  | d x0 =>
   cases x0 <;> simp only [reduceCtorEq] at h
   rename_i cs
   cases h
   have hv := hx.dV
   cases hv with
   | ptr _ b off us hS hc ho hv => exact ⟨_, hrun _ _, .d _ _ ((VR.ptr cs b off us hS hc ho hv).ptrDrop fd.offset)⟩
  | _ => simp at h
theorem StepR.valueM (hM : Mem C S0 L0 w0 S B H F w) {s : Sem Value} {r : Option AV} {x : AV} {H1 : Hs} {n1 : Nat} (h : (r.map fun v => (v, H, nx)) = some (x, H1, n1))
  (hs : ∀ z, r = some z → ∃ v, s.run P w = .ok v w ∧ AVR S w B z v) : StepR C S0 L0 w0 S B F nx w ((do pure (.value (← s)) : Sem Next).run P w) x H1 n1 := by
 obtain ⟨y, hy, he⟩ := Option.map_eq_some_iff.1 h
 cases he
 obtain ⟨v, hr, hv⟩ := hs _ hy
 exact .value hM hr hv
theorem partsR_of {e : Operand → AV} {ρ : Operand → Value} (ps : Array (Nat × Operand)) (h : ∀ x ∈ (ps.toList.map (·.2)).toArray, AVR S w B (e x) (ρ x)) :
  PartsR S w B (ps.toList.map fun (i, x) => (i, e x)) (ps.toList.map fun (i, x) => (i, ρ x)) := by
 refine ⟨by simp, fun j a v ha hv => ?_⟩
 rw [List.getElem?_map] at ha hv
 obtain ⟨q, hq, rfl⟩ := Option.map_eq_some_iff.1 ha
 rw [hq] at hv
 cases hv
 exact ⟨rfl, h q.2 (by simp; exact ⟨q.1, by have := List.mem_of_getElem? hq; simpa using this⟩)⟩
theorem appendA_next {ts tx : TypeId} {s x r : AV} {H1 : Hs} {n1 : Nat} (h : appendA C H nx ts tx s x = some (r, H1, n1)) : n1 = nx + 1 := by
 unfold appendA at h
 split at h <;> try cases h
 split at h <;> try cases h
 split at h <;> try cases h
 split at h <;> try cases h
 split at h <;> cases h
 rfl
theorem act_sound (V : Valid P C) (hM : Mem C S0 L0 w0 S B H F w) {e : Operand → AV} {ρ : Operand → Value} {o : Oper} (hρ : ∀ x ∈ o.op.operands, AVR S w B (e x) (ρ x)) {x : AV} {H1 : Hs} {n1 : Nat}
  (h : act C H nx e o.op = some (x, H1, n1)) (hF : ∀ id, nx ≤ id → id < n1 → F id) : StepR C S0 L0 w0 S B F nx w ((execOp ρ o).run P w) x H1 n1 := by
 obtain ⟨dst, op, type, pos, guard, after⟩ := o
 simp only at hρ h
 cases op with
 | move a =>
  simp only [act, Option.map_some, Option.some.injEq, Prod.mk.injEq] at h
  obtain ⟨rfl, rfl, rfl⟩ := h
  exact .pureV hM (hρ a (by simp [Op.operands]))
 | assign a =>
  simp only [act, Option.map_some, Option.some.injEq, Prod.mk.injEq] at h
  obtain ⟨rfl, rfl, rfl⟩ := h
  exact .pureV hM (hρ a (by simp [Op.operands]))
 | pick c a b =>
  have hc := hρ c (by simp [Op.operands])
  simp only [act] at h
  split at h
  ·rename_i hcc
   rw [hcc] at hc
   have := hc.dV.boolV
   simp only [Option.map_some, Option.some.injEq, Prod.mk.injEq] at h
   obtain ⟨rfl, rfl, rfl⟩ := h
   simp only [execOp, this, asBool, pure_bind]
   exact .pureV hM (hρ a (by simp [Op.operands]))
  ·rename_i hcc
   rw [hcc] at hc
   have := hc.dV.boolV
   simp only [Option.map_some, Option.some.injEq, Prod.mk.injEq] at h
   obtain ⟨rfl, rfl, rfl⟩ := h
   simp only [execOp, this, asBool, pure_bind]
   exact .pureV hM (hρ b (by simp [Op.operands]))
  ·cases h
 | alloc t =>
  simp only [act] at h
  obtain ⟨y, hy, h⟩ := Option.bind_eq_some_iff.1 h
  cases h
  obtain ⟨hu, i, z, hi, hsz, hby, hz, hzr⟩ := V.ty t y hy
  exact alloc_step (v := z) (e := t) hM (hF nx (by omega) (by omega)) hzr.cells (by simp [Instr.alloc, zeroValue, typeInfo, hi, hz, newVar, newRow])
 | box t a =>
  simp only [act] at h
  obtain ⟨n, hn, h⟩ := Option.bind_eq_some_iff.1 h
  split at h
  ·rename_i hc
   cases h
   exact alloc_step (v := ρ a) (e := t) hM (hF nx (by omega) (by omega)) ((hρ a (by simp [Op.operands])).cellsOk hc.2) (by simp [Instr.box, newVar, newRow])
  ·cases h
 | build t ps =>
  refine .valueM hM h fun y hy => ?_
  obtain ⟨v, h1, h2⟩ := buildA_sound V (partsR_of ps hρ) hy
  exact ⟨v, by rw [← h1]; congr 2; apply Array.ext'; simp, h2⟩
 | buildSlice t len ps =>
  simp only [act] at h
  split at h
  ·rename_i el hel
   split at h
   ·rename_i z ye hz hye
    split at h
    ·rename_i hc
     split at h
     ·rename_i xs H2 hp
      cases h
      have := buildSlice_step V hM (hF nx (by omega) (by omega)) hel hz hye hc (partsR_of ps hρ) hp
      have e : (ps.toList.map fun (i, x) => (i, ρ x)).toArray = ps.map fun (i, x) => (i, ρ x) := by apply Array.ext'; simp
      rw [e] at this
      exact this
     ·cases h
    ·cases h
   ·cases h
  ·cases h
 | load t p => exact .valueM hM h fun y hy => load_sound V hM (hρ p (by simp [Op.operands])) hy
 | store t p v =>
  simp only [act] at h
  obtain ⟨H2, h2, he⟩ := Option.map_eq_some_iff.1 h
  cases he
  obtain ⟨w', hr, hM', hs⟩ := store_sound V hM (hρ p (by simp [Op.operands])) (hρ v (by simp [Op.operands])) h2
  exact ⟨Go.undef, w', S, B, .inr ⟨by simp [execOp, hr], rfl⟩, .undef, hM'.weak (fun _ h => h.1), fun _ h => h, hs, Ext.refl _⟩
 | nilCheck a =>
  have ha := hρ a (by simp [Op.operands])
  simp only [act] at h
  split at h
  ·rename_i id off hx
   rw [hx] at ha
   simp only [Option.map_some, Option.some.injEq, Prod.mk.injEq] at h
   obtain ⟨rfl, rfl, rfl⟩ := h
   simp only [execOp]
   generalize ρ a = v at ha ⊢
   cases ha
   exact .pureV hM (.pt _ _ _ (by assumption))
  ·rename_i id i j hx
   rw [hx] at ha
   simp only [Option.map_some, Option.some.injEq, Prod.mk.injEq] at h
   obtain ⟨rfl, rfl, rfl⟩ := h
   simp only [execOp]
   generalize ρ a = v at ha ⊢
   cases ha
   exact .pureV hM (.pe _ _ _ _ (by assumption))
  ·rename_i cs hx
   rw [hx] at ha
   simp only [Option.map_some, Option.some.injEq, Prod.mk.injEq] at h
   obtain ⟨rfl, rfl, rfl⟩ := h
   simp only [execOp]
   have hv := ha.dV
   generalize ρ a = v at ha hv ⊢
   cases hv
   exact .pureV hM ha
  ·cases h
 | binOp op t a b g =>
  refine .valueM hM h fun y hy => ?_
  obtain ⟨r, hr, rfl⟩ := Option.map_eq_some_iff.1 hy
  obtain ⟨v, h1, h2⟩ := binA_sound (x := a) (y := b) V (hρ a (by simp [Op.operands])) (hρ b (by simp [Op.operands])) hr
  exact ⟨v, h1, .d _ _ h2⟩
 | unOp op t a =>
  refine .valueM hM h fun y hy => ?_
  obtain ⟨r, hr, rfl⟩ := Option.map_eq_some_iff.1 hy
  have ha := hρ a (by simp [Op.operands])
  split at hr
  ·rename_i x0 hx
   rw [hx] at ha
   obtain ⟨v, h1, h2⟩ := unD_sound (P := P) ha.dV hr
   exact ⟨v, h1, .d _ _ h2⟩
  ·cases hr
 | convert s t a => exact .valueM hM h fun y hy => convA_sound V (hρ a (by simp [Op.operands])) hy
 | slice t a lo hi mx =>
  refine .valueM hM h fun y hy => ?_
  cases mx with
  | some m => simp [sliceA] at hy
  | none =>
   exact sliceA_sound V hM (hρ a (by simp [Op.operands])) (fun b hb => by
     cases lo with
     | none => cases hb
     | some l => cases hb; exact ⟨_, rfl, hρ l (by simp [Op.operands])⟩) (fun hb => by cases lo <;> simp_all)
    (fun b hb => by
     cases hi with
     | none => cases hb
     | some l => cases hb; exact ⟨_, rfl, hρ l (by simp [Op.operands])⟩) (fun hb => by cases hi <;> simp_all) hy
 | fieldAddr t a f =>
  simp only [act] at h
  split at h
  ·rename_i fd hf
   split at h
   ·cases h
   ·rename_i hz
    exact .valueM hM h fun y hy => fieldAddr_sound V hf hz (hρ a (by simp [Op.operands])) hy
  ·cases h
 | field t a f =>
  simp only [act] at h
  split at h
  ·rename_i fd hf
   split at h
   ·rename_i n g hn hg
    exact .valueM hM h fun y hy => field_sound V hf hn hg (hρ a (by simp [Op.operands])) hy
   ·cases h
  ·cases h
 | makeFunc fn first caps =>
  refine .valueM hM h fun y hy => ?_
  split at hy
  ·rename_i f
   split at hy
   ·rename_i hf
    cases hy
    have e1 : first = #[] := by simpa using hf
    subst e1
    refine ⟨.func (.func f) #[] (caps.map ρ), by simp [Instr.makeFunc], .fn f _ _ (by simp) fun j c u hc hu => ?_⟩
    rw [List.getElem?_map] at hc
    rw [Array.getElem?_map] at hu
    obtain ⟨q, hq, rfl⟩ := Option.map_eq_some_iff.1 hc
    have hq' : caps[j]? = some q := by simpa using hq
    rw [hq'] at hu
    cases hu
    exact hρ q (by simp only [Op.operands]; exact Array.mem_append_right _ (Array.mem_of_getElem? hq'))
   ·cases hy
  ·cases hy
 | makeSlice t l c =>
  simp only [act] at h
  obtain ⟨r, hr, h⟩ := Option.map_eq_some_iff.1 h
  cases h
  exact makeSlice_step V hM (hF nx (by omega) (by omega)) (hρ l (by simp [Op.operands])) (hρ c (by simp [Op.operands])) hr
 | makeMap t r =>
  simp only [act] at h
  split at h
  ·cases h
   exact makeMap_step hM (hF nx (by omega) (by omega))
  ·cases h
 | lookup t m x ok => exact .valueM hM h fun y hy => lookup_sound V hM (hρ m (by simp [Op.operands])) (hρ x (by simp [Op.operands])) hy
 | mapUpdate t m x v =>
  simp only [act] at h
  obtain ⟨H2, h2, he⟩ := Option.map_eq_some_iff.1 h
  cases he
  obtain ⟨w', S1, hr, hM', hS, hs⟩ := update_sound V hM (hρ m (by simp [Op.operands])) (hρ x (by simp [Op.operands])) (hρ v (by simp [Op.operands])) h2
  exact ⟨Go.undef, w', S1, B, .inr ⟨by simp [execOp, hr], rfl⟩, .undef, hM'.weak (fun _ h => h.1), hS, hs, Ext.refl _⟩
 | indexAddr t a i => exact .valueM hM h fun y hy => indexAddrA_sound V hM (hρ a (by simp [Op.operands])) (hρ i (by simp [Op.operands])) hy
 | index t a i => exact .valueM hM h fun y hy => indexA_sound V (hρ a (by simp [Op.operands])) (hρ i (by simp [Op.operands])) hy
 | extract a i =>
  have ha := hρ a (by simp [Op.operands])
  simp only [act] at h
  split at h
  ·rename_i vs hx
   rw [hx] at ha
   refine .valueM hM h fun y hy => ?_
   generalize ρ a = v at ha
   cases ha with
   | tup _ us hl hv =>
    have hi : i < us.size := by have := (List.getElem?_eq_some_iff.1 hy).1; omega
    exact ⟨us[i], by simp [Instr.extract, hi], hv i y _ hy (by simp [hi])⟩
  ·cases h
 | call c =>
  have hargs : ∀ a ∈ c.args, AVR S w B (e a) (ρ a) := fun a ha => hρ a (by simp [Op.operands, Call.operands, ha])
  obtain ⟨callee, args, argTypes⟩ := c
  simp only at hargs
  simp only [act] at h
  have hl : ∀ (i : Nat) a v, (args.toList.map e)[i]? = some a → (args.toList.map ρ)[i]? = some v → AVR S w B a v := by
   intro i a v ha hv
   rw [List.getElem?_map] at ha hv
   obtain ⟨q, hq, rfl⟩ := Option.map_eq_some_iff.1 ha
   rw [hq] at hv
   cases hv
   exact hargs q (by have := List.mem_of_getElem? hq; simpa using this)
  have hmap : args.map ρ = (args.toList.map ρ).toArray := by apply Array.ext'; simp
  split at h
  ·split at h
   ·rename_i x0 t0 hx0 ht0
    have e1 : args = #[x0] := Array.ext' (by simpa using hx0)
    have e2 : argTypes = #[t0] := Array.ext' (by simpa using ht0)
    subst e1 e2
    have : execOp ρ ⟨dst, .call ⟨.builtin .len, #[x0], #[t0]⟩, type, pos, guard, after⟩ = (do pure (.value (← Builtin.len_ #[t0] type #[ρ x0])) : Sem Next) := by
     simp [execOp, resolve, invoke, builtin]
    rw [this]
    refine .valueM hM h fun y hy => ?_
    obtain ⟨n, hn, rfl⟩ := Option.map_eq_some_iff.1 hy
    exact ⟨_, lenA_sound V (hargs x0 (by simp)) hn, .d _ _ (.int ..)⟩
   ·cases h
  ·split at h
   ·rename_i s0 x0 ts tx hx0 ht0
    have e1 : args = #[s0, x0] := Array.ext' (by simpa using hx0)
    have e2 : argTypes = #[ts, tx] := Array.ext' (by simpa using ht0)
    subst e1 e2
    have : execOp ρ ⟨dst, .call ⟨.builtin .append, #[s0, x0], #[ts, tx]⟩, type, pos, guard, after⟩ = (do pure (.value (← Builtin.append_ #[ts, tx] type #[ρ s0, ρ x0])) : Sem Next) := by
     simp [execOp, resolve, invoke, builtin]
    rw [this]
    exact append_step V hM (hF nx (by omega) (by have := appendA_next h; omega)) (hargs s0 (by simp)) (hargs x0 (by simp)) h
   ·cases h
  ·have : execOp ρ ⟨dst, .call ⟨.builtin .max, args, argTypes⟩, type, pos, guard, after⟩ = (do pure (.value (← Builtin.max_ argTypes type (args.toList.map ρ).toArray)) : Sem Next) := by
    simp only [execOp, resolve, invoke, builtin, pure_bind, hmap]
   rw [this]
   exact .valueM hM h fun y hy => max_sound (by simp) hl _ _ hy
  ·have : execOp ρ ⟨dst, .call ⟨.builtin .min, args, argTypes⟩, type, pos, guard, after⟩ = (do pure (.value (← Builtin.min_ argTypes type (args.toList.map ρ).toArray)) : Sem Next) := by
    simp only [execOp, resolve, invoke, builtin, pure_bind, hmap]
   rw [this]
   exact .valueM hM h fun y hy => min_sound (by simp) hl _ _ hy
  ·cases h
 | _ => simp [act] at h
end
end Go.Jv
namespace Go.Jv
abbrev Ft.looks (f : Ft) (id : Nat) : Prop := f.rd id
abbrev Ft.mods (f : Ft) (id : Nat) : Prop := f.md id
theorem act_congr {C : Cfg} {H : Hs} {nx : Nat} {e e' : Operand → AV} {o : Op} (he : ∀ x ∈ o.operands, e' x = e x) : act C H nx e' o = act C H nx e o := by
 have hps : ∀ (ps : Array (Nat × Operand)), (∀ x ∈ (ps.toList.map (·.2)).toArray, e' x = e x) → (ps.toList.map fun (i, x) => (i, e' x)) = ps.toList.map fun (i, x) => (i, e x) := by
  intro ps h
  refine List.map_congr_left fun q hq => ?_
  obtain ⟨i, x⟩ := q
  simp only
  rw [h x (by simp; exact ⟨i, by simpa using hq⟩)]
 cases o with
 | build t ps => simp only [act, hps ps he]
 | buildSlice t n ps => simp only [act, hps ps he]
 | slice t x lo hi mx =>
  have h1 : lo.map e' = lo.map e := by cases lo with | none => rfl | some l => simp [he l (by simp [Op.operands])]
  have h2 : hi.map e' = hi.map e := by cases hi with | none => rfl | some l => simp [he l (by simp [Op.operands])]
  simp only [act, h1, h2, he x (by simp [Op.operands])]
 | call c =>
  obtain ⟨callee, args, ats⟩ := c
  have ha : ∀ a ∈ args.toList, e' a = e a := fun a h => he a (by simp [Op.operands, Call.operands]; exact .inr (by simpa using h))
  have hm : args.toList.map e' = args.toList.map e := List.map_congr_left ha
  simp only [act, hm]
  split
  ·split
   ·rename_i hx _; rw [hx] at ha; simp at ha; simp only [ha]
   ·rfl
  ·split
   ·rename_i hx _; rw [hx] at ha; simp at ha; simp only [ha]
   ·rfl
  ·rfl
  ·rfl
  ·rfl
 | makeFunc fn first caps =>
  have hm : caps.toList.map e' = caps.toList.map e := List.map_congr_left fun a h => he a (by simp only [Op.operands]; exact Array.mem_append_right _ (by simpa using h))
  simp only [act, hm]
 | _ => simp_all [act, Op.operands]
def Local (f : Ft) (H H' H1 H1' : Hs) : Prop := (∀ id, f.mods id → H1' id = H1 id) ∧ ∀ id, ¬ f.mods id → H1' id = H' id ∧ H1 id = H id
theorem Local.quiet {f : Ft} {H H' : Hs} (h : ∀ id, f.mods id → H' id = H id) : Local f H H' H H' := ⟨h, fun _ _ => ⟨rfl, rfl⟩⟩
theorem map_pure {H : Hs} {nx : Nat} {r : Option AV} {x : AV} {H1 : Hs} {n1 : Nat} (h : (r.map fun v => (v, H, nx)) = some (x, H1, n1)) (H' : Hs) :
  H1 = H ∧ n1 = nx ∧ (r.map fun v => (v, H', nx)) = some (x, H', nx) := by
 obtain ⟨y, rfl, he⟩ := Option.map_eq_some_iff.1 h
 cases he
 exact ⟨rfl, rfl, rfl⟩
theorem act_quiet {C : Cfg} {H : Hs} {nx : Nat} {e : Operand → AV} {o : Op} (hq : quietOp o = true) {x : AV} {H1 : Hs} {n1 : Nat} (h : act C H nx e o = some (x, H1, n1)) (H' : Hs) :
  H1 = H ∧ n1 = nx ∧ act C H' nx e o = some (x, H', nx) := by
 cases o with
 | move a => exact map_pure (r := some (e a)) h H'
 | assign a => exact map_pure (r := some (e a)) h H'
 | pick c a b => simp only [act] at h ⊢; split at h <;> first | exact map_pure h H' | cases h
 | nilCheck a => simp only [act] at h ⊢; split at h <;> first | exact map_pure h H' | cases h
 | extract a i => simp only [act] at h ⊢; split at h <;> first | exact map_pure h H' | cases h
 | fieldAddr t a f =>
  simp only [act] at h ⊢
  split at h
  ·split at h
   ·cases h
   ·rename_i hz; rw [if_neg hz]; exact map_pure h H'
  ·cases h
 | field t a f =>
  simp only [act] at h ⊢
  split at h
  ·split at h
   ·exact map_pure h H'
   ·cases h
  ·cases h
 | call c =>
  obtain ⟨callee, args, ats⟩ := c
  simp only [act] at h ⊢
  split at h
  ·split at h
   ·exact map_pure h H'
   ·cases h
  ·simp [quietOp] at hq
  ·exact map_pure h H'
  ·exact map_pure h H'
  ·cases h
 | _ => first | exact map_pure h H' | simp [quietOp] at hq
theorem footA_quiet {C : Cfg} {H : Hs} {nx n1 : Nat} {e : Operand → AV} {o : Op} (hq : quietOp o = true) : footA C H nx n1 e o = noFt := by
 cases o with
 | call c =>
  obtain ⟨callee, args, ats⟩ := c
  simp only [quietOp] at hq
  split at hq <;> simp_all [footA]
 | _ => first | rfl | simp [quietOp] at hq
theorem upd_local {H H' : Hs} {i : Nat} {h : Home} {X : Nat → Prop} (hi : X i) {f : Ft} (hf : f.md = X) (hH : ∀ id, X id → H' id = H id) : Local f H H' (upd H i h) (upd H' i h) := by
 refine ⟨fun id hm => ?_, fun id hm => ?_⟩
 ·rw [Ft.mods, hf] at hm
  simp only [upd]
  split
  ·rfl
  ·exact hH id hm
 ·rw [Ft.mods, hf] at hm
  have : id ≠ i := fun e => hm (e ▸ hi)
  simp [upd, this]
def ClosedX (X : Nat → Prop) (H : Hs) : Prop := ∀ j cs c i, X j → H j = .box cs → c ∈ cs → Ment i c → X i
theorem Leads.closed (H : Hs) (vs : List AV) : ClosedX (Leads H vs) H := fun j cs c _ hj hb hc hm => .box j cs c hj hb hc hm
theorem Leads.sub {X : Nat → Prop} {H : Hs} {vs : List AV} (hX : ClosedX X H) (hv : ∀ v ∈ vs, ∀ i, Ment i v → X i) : ∀ i, Leads H vs i → X i := by
 intro i h
 induction h with
 | arg v h hm => exact hv v h _ hm
 | box j cs c hj hb hc hm ih => exact hX j cs c _ ih hb hc hm
theorem Leads.congr {H H' : Hs} {vs : List AV} (h : ∀ i, Leads H vs i → H' i = H i) : Leads H' vs = Leads H vs := by
 funext i
 refine propext ⟨fun hr => ?_, fun hr => ?_⟩
 ·induction hr with
  | arg v h hm => exact .arg v h hm
  | box j cs c hj hb hc hm ih => exact .box j cs c ih ((h j ih).symm.trans hb) hc hm
 ·induction hr with
  | arg v h hm => exact .arg v h hm
  | box j cs c hj hb hc hm ih => exact .box j cs c ih ((h j hj).trans hb) hc hm
structure In (X : Nat → Prop) (H H' H1 H1' : Hs) : Prop where
 on : ∀ i, X i → H1' i = H1 i
 off : ∀ i, ¬ X i → H1' i = H' i ∧ H1 i = H i
 cl : ClosedX X H1
theorem In.refl {X : Nat → Prop} {H H' : Hs} (hX : ClosedX X H) (hH : ∀ i, X i → H' i = H i) : In X H H' H H' := ⟨hH, fun _ _ => ⟨rfl, rfl⟩, hX⟩
theorem In.trans {X : Nat → Prop} {H H' H1 H1' H2 H2' : Hs} (h : In X H H' H1 H1') (k : In X H1 H1' H2 H2') : In X H H' H2 H2' :=
 ⟨k.on, fun i hi => ⟨(k.off i hi).1.trans (h.off i hi).1, (k.off i hi).2.trans (h.off i hi).2⟩, k.cl⟩
theorem In.upd {X : Nat → Prop} {H H' H1 H1' : Hs} (h : In X H H' H1 H1') {id : Nat} (hx : X id) {q : Home} (hq : ∀ cs, q ≠ .box cs) : In X H H' (Go.Jv.upd H1 id q) (Go.Jv.upd H1' id q) := by
 refine ⟨fun i hi => ?_, fun i hi => ?_, fun j cs c i hj hb hc hm => ?_⟩
 ·simp only [Go.Jv.upd]; split
  ·rfl
  ·exact h.on i hi
 ·have : i ≠ id := fun e => hi (e ▸ hx)
  simp only [Go.Jv.upd, this, if_false]; exact h.off i hi
 ·simp only [Go.Jv.upd] at hb
  split at hb
  ·exact absurd hb (hq cs)
  ·exact h.cl j cs c i hj hb hc hm
theorem frz_loc {X : Nat → Prop} : ∀ (n : Nat) {H H' : Hs} {v : AV} {x : Dat} {H1 : Hs}, ClosedX X H → (∀ i, X i → H' i = H i) → (∀ i, Ment i v → X i) → frz n H v = some (x, H1) → ∃ H1', frz n H' v = some (x, H1') ∧ In X H H' H1 H1'
 | 0, _, _, _, _, _, _, _, _, h => by simp [frz] at h
 | n + 1, H, H', v, x, H1, hX, hH, hv, h => by
  have list : ∀ (cs : List AV) {H H' : Hs} {xs : List Dat} {H1 : Hs}, ClosedX X H → (∀ i, X i → H' i = H i) → (∀ c ∈ cs, ∀ i, Ment i c → X i) → frzL (frz n) H cs = some (xs, H1) → ∃ H1', frzL (frz n) H' cs = some (xs, H1') ∧ In X H H' H1 H1' := by
   intro cs
   induction cs with
   | nil =>
    intro H H' xs H1 hX hH _ h
    simp only [frzL, Option.some.injEq, Prod.mk.injEq] at h
    obtain ⟨rfl, rfl⟩ := h
    exact ⟨H', rfl, .refl hX hH⟩
   | cons c cs ihl =>
    intro H H' xs H1 hX hH hc h
    simp only [frzL] at h
    split at h
    ·cases h
    ·rename_i x0 H2 h0
     split at h
     ·rename_i xs0 H3 h1
      cases h
      obtain ⟨H2', h2, i2⟩ := frz_loc n hX hH (hc c (by simp)) h0
      obtain ⟨H3', h3, i3⟩ := ihl i2.cl i2.on (fun c hm => hc c (by simp [hm])) h1
      exact ⟨H3', by simp only [frzL, h2, h3], i2.trans i3⟩
     ·cases h
  cases v with
  | d x0 => simp only [frz, Option.some.injEq, Prod.mk.injEq] at h ⊢; obtain ⟨rfl, rfl⟩ := h; exact ⟨H', ⟨rfl, rfl⟩, .refl hX hH⟩
  | nil => simp only [frz, Option.some.injEq, Prod.mk.injEq] at h ⊢; obtain ⟨rfl, rfl⟩ := h; exact ⟨H', ⟨rfl, rfl⟩, .refl hX hH⟩
  | sl id lo hi =>
   have hx : X id := hv id (.sl lo hi)
   simp only [frz, hH id hx] at h ⊢
   split at h
   ·split at h
    ·rename_i hc
     rw [if_pos hc]
     simp only [Option.some.injEq, Prod.mk.injEq] at h ⊢
     obtain ⟨rfl, rfl⟩ := h
     exact ⟨_, ⟨rfl, rfl⟩, (In.refl hX hH).upd hx (fun cs => by simp)⟩
    ·cases h
   ·split at h
    ·rename_i hc
     rw [if_pos hc]
     simp only [Option.some.injEq, Prod.mk.injEq] at h ⊢
     obtain ⟨rfl, rfl⟩ := h
     exact ⟨_, ⟨rfl, rfl⟩, .refl hX hH⟩
    ·cases h
   ·cases h
  | pt id off =>
   have hx : X id := hv id (.pt off)
   simp only [frz, hH id hx] at h ⊢
   split at h
   ·simp only [Option.some.injEq, Prod.mk.injEq] at h ⊢
    obtain ⟨rfl, rfl⟩ := h
    exact ⟨_, ⟨rfl, rfl⟩, .refl hX hH⟩
   ·rename_i cs hb
    split at h
    ·rename_i xs H2 h2
     obtain ⟨H2', h3, i2⟩ := list cs hX hH (fun c hc i hm => hX id cs c i hx hb hc hm) h2
     simp only [h3, i2.on id hx]
     split at h
     ·rename_i cs2 hb2
      simp only [Option.some.injEq, Prod.mk.injEq] at h ⊢
      obtain ⟨rfl, rfl⟩ := h
      exact ⟨_, ⟨rfl, rfl⟩, i2.upd hx (fun cs => by simp)⟩
     ·cases h
    ·cases h
   ·cases h
  | agg cs =>
   simp only [frz] at h ⊢
   obtain ⟨⟨xs, H2⟩, h2, he⟩ := Option.map_eq_some_iff.1 h
   simp only [Prod.mk.injEq] at he
   obtain ⟨rfl, rfl⟩ := he
   obtain ⟨H2', h3, i2⟩ := list cs hX hH (fun c hc i hm => hv i (.agg cs c hc hm)) h2
   exact ⟨H2', by rw [h3]; rfl, i2⟩
  | fn f cs =>
   simp only [frz] at h ⊢
   obtain ⟨⟨xs, H2⟩, h2, he⟩ := Option.map_eq_some_iff.1 h
   simp only [Prod.mk.injEq] at he
   obtain ⟨rfl, rfl⟩ := he
   obtain ⟨H2', h3, i2⟩ := list cs hX hH (fun c hc i hm => hv i (.fn f cs c hc hm)) h2
   exact ⟨H2', by rw [h3]; rfl, i2⟩
  | _ => simp [frz] at h
theorem frzL_loc {X : Nat → Prop} (n : Nat) : ∀ (cs : List AV) {H H' : Hs} {xs : List Dat} {H1 : Hs}, ClosedX X H → (∀ i, X i → H' i = H i) → (∀ c ∈ cs, ∀ i, Ment i c → X i) → frzL (frz n) H cs = some (xs, H1) → ∃ H1', frzL (frz n) H' cs = some (xs, H1') ∧ In X H H' H1 H1'
 | [], H, H', xs, H1, hX, hH, _, h => by
  simp only [frzL, Option.some.injEq, Prod.mk.injEq] at h
  obtain ⟨rfl, rfl⟩ := h
  exact ⟨H', rfl, .refl hX hH⟩
 | c :: cs, H, H', xs, H1, hX, hH, hc, h => by
  simp only [frzL] at h
  split at h
  ·cases h
  ·rename_i x0 H2 h0
   split at h
   ·rename_i xs0 H3 h1
    cases h
    obtain ⟨H2', h2, i2⟩ := frz_loc n hX hH (hc c (by simp)) h0
    obtain ⟨H3', h3, i3⟩ := frzL_loc n cs i2.cl i2.on (fun c hm => hc c (by simp [hm])) h1
    exact ⟨H3', by simp only [frzL, h2, h3], i2.trans i3⟩
   ·cases h
theorem see_loc {X : Nat → Prop} {H H' : Hs} (hX : ClosedX X H) (hH : ∀ i, X i → H' i = H i) : ∀ (n : Nat) {v : AV}, (∀ i, Ment i v → X i) → see n H' v = see n H v
 | 0, _, _ => rfl
 | n + 1, v, hv => by
  have list : ∀ (cs : List AV), (∀ c ∈ cs, ∀ i, Ment i c → X i) → seeAll (see n H') cs = seeAll (see n H) cs := by
   intro cs
   induction cs with
   | nil => intro _; rfl
   | cons c cs ih => intro hc; simp only [seeAll, see_loc hX hH n (hc c (by simp)), ih fun c hm => hc c (by simp [hm])]
  cases v with
  | sl id lo hi => simp only [see, hH id (hv id (.sl lo hi))]
  | pt id off =>
   simp only [see, hH id (hv id (.pt off))]
   split
   ·rfl
   ·rename_i cs hb
    rw [list cs fun c hc i hm => hX id cs c i (hv id (.pt off)) hb hc hm]
   ·rfl
  | agg cs => simp only [see, list cs fun c hc i hm => hv i (.agg cs c hc hm)]
  | fn f cs => simp only [see, list cs fun c hc i hm => hv i (.fn f cs c hc hm)]
  | _ => rfl
theorem seeAll_loc {X : Nat → Prop} {H H' : Hs} (hX : ClosedX X H) (hH : ∀ i, X i → H' i = H i) (n : Nat) : ∀ (cs : List AV), (∀ c ∈ cs, ∀ i, Ment i c → X i) → seeAll (see n H') cs = seeAll (see n H) cs
 | [], _ => rfl
 | c :: cs, hc => by simp only [seeAll, see_loc hX hH n (hc c (by simp)), seeAll_loc hX hH n cs fun c hm => hc c (by simp [hm])]
theorem partsD_loc {X : Nat → Prop} {sz : Nat} : ∀ (as : List (Nat × AV)) {H H' : Hs} {xs ys : List Dat} {H1 : Hs}, ClosedX X H → (∀ i, X i → H' i = H i) → (∀ p ∈ as, ∀ i, Ment i p.2 → X i) → partsD sz H xs as = some (ys, H1) → ∃ H1', partsD sz H' xs as = some (ys, H1') ∧ In X H H' H1 H1'
 | [], H, H', xs, ys, H1, hX, hH, _, h => by
  simp only [partsD, Option.some.injEq, Prod.mk.injEq] at h ⊢
  obtain ⟨rfl, rfl⟩ := h
  exact ⟨H', ⟨rfl, rfl⟩, .refl hX hH⟩
 | (i, v) :: as, H, H', xs, ys, H1, hX, hH, hc, h => by
  simp only [partsD] at h
  split at h
  ·rename_i x H2 h2
   split at h
   ·rename_i hcond
    obtain ⟨H2', h3, i2⟩ := frz_loc 4 hX hH (hc (i, v) (by simp)) h2
    obtain ⟨H3', h4, i3⟩ := partsD_loc as i2.cl i2.on (fun p hm => hc p (by simp [hm])) h
    exact ⟨H3', by simp only [partsD, h3, if_pos hcond, h4], i2.trans i3⟩
   ·cases h
  ·cases h
theorem frz_plain {n : Nat} {H : Hs} {v : AV} {x : Dat} {H1 : Hs} (hp : (datA v).isSome = true) (h : frz n H v = some (x, H1)) (H' : Hs) : H1 = H ∧ frz n H' v = some (x, H') := by
 match n, v, hp, h with
 | 0, _, _, h => simp [frz] at h
 | n + 1, .d y, _, h => simp only [frz, Option.some.injEq, Prod.mk.injEq] at h ⊢; exact ⟨h.2.symm, by simp [h.1]⟩
 | n + 1, .nil, _, h => simp only [frz, Option.some.injEq, Prod.mk.injEq] at h ⊢; exact ⟨h.2.symm, by simp [h.1]⟩
 | n + 1, .agg cs, hp, h =>
  have key : ∀ (cs : List AV) (H H' : Hs) (xs : List Dat) (H1 : Hs), (seeAll (fun | .d x => some x | .nil => some (.lst []) | _ => none) cs).isSome = true → frzL (frz n) H cs = some (xs, H1) → H1 = H ∧ frzL (frz n) H' cs = some (xs, H') := by
   intro cs
   induction cs with
   | nil => intro H H' xs H1 _ h; simp only [frzL, Option.some.injEq, Prod.mk.injEq] at h ⊢; exact ⟨h.2.symm, by simp [h.1]⟩
   | cons c cs ih =>
    intro H H' xs H1 hp h
    simp only [seeAll] at hp
    simp only [frzL] at h ⊢
    split at hp
    ·rename_i y ys hc hcs
     cases hf : frz n H c with
     | none => simp [hf] at h
     | some r =>
      simp only [hf] at h
      have hr : r.2 = H ∧ frz n H' c = some (r.1, H') := by
       match n, c, hf, hc with
       | 0, _, hf, _ => simp [frz] at hf
       | n + 1, .d y, hf, _ => simp only [frz, Option.some.injEq] at hf ⊢; subst hf; exact ⟨rfl, rfl⟩
       | n + 1, .nil, hf, _ => simp only [frz, Option.some.injEq] at hf ⊢; subst hf; exact ⟨rfl, rfl⟩
      rw [hr.1] at h
      simp only [hr.2]
      cases hl : frzL (frz n) H cs with
      | none => simp [hl] at h
      | some q =>
       simp only [hl, Option.some.injEq, Prod.mk.injEq] at h
       obtain ⟨h1, h2⟩ := ih H H' q.1 q.2 (by rw [hcs]; rfl) hl
       rw [h2]
       exact ⟨h.2.symm.trans h1, by simp only [h.1]⟩
    ·cases hp
  simp only [frz] at h ⊢
  obtain ⟨r, hr, he⟩ := Option.map_eq_some_iff.1 h
  simp only [Prod.mk.injEq] at he
  have hp' : (seeAll (fun | .d x => some x | .nil => some (.lst []) | _ => none) cs).isSome = true := by
   simp only [datA, Option.isSome_map] at hp; exact hp
  obtain ⟨h1, h2⟩ := key cs H H' r.1 r.2 hp' hr
  exact ⟨he.2.symm.trans h1, by simp [h2, he.1]⟩
theorem partsD_plain {sz : Nat} {H : Hs} : ∀ {as : List (Nat × AV)} {xs : List Dat} {ys : List Dat} {H1 : Hs}, (∀ p ∈ as, (datA p.2).isSome = true) → partsD sz H xs as = some (ys, H1) → ∀ H', H1 = H ∧ partsD sz H' xs as = some (ys, H')
 | [], xs, ys, H1, _, h, H' => by simp only [partsD, Option.some.injEq, Prod.mk.injEq] at h ⊢; exact ⟨h.2.symm, by simp [h.1]⟩
 | (i, v) :: as, xs, ys, H1, hp, h, H' => by
  simp only [partsD] at h ⊢
  split at h
  ·rename_i x H2 h2
   obtain ⟨h3, h4⟩ := frz_plain (hp (i, v) (by simp)) h2 H'
   subst h3
   rw [h4]
   simp only
   split at h
   ·rename_i hc
    rw [if_pos hc]
    exact partsD_plain (fun p hq => hp p (by simp [hq])) h H'
   ·cases h
  ·cases h
theorem see1_local {H H' : Hs} {v : AV} (h : ∀ id ∈ idOf v, H' id = H id) {xs : List Dat} (hs : see 1 H v = some (.lst xs)) : see 1 H' v = some (.lst xs) := by
 cases v with
 | sl id lo hi => simp only [see] at hs ⊢; rw [h id (by simp [idOf])]; exact hs
 | pt id off =>
  simp only [see] at hs
  split at hs
  ·simp at hs
  ·simp at hs
  ·cases hs
 | d x => exact hs
 | nil => exact hs
 | _ => simp [see] at hs
theorem loadA_local {C : Cfg} {H H' : Hs} {t : TypeId} {p : AV} (h : ∀ id ∈ idOf p, H' id = H id) : loadA C H' t p = loadA C H t p := by
 cases p with
 | pt id off => simp only [loadA, h id (by simp [idOf])]
 | pe id i j => simp only [loadA, h id (by simp [idOf])]
 | d x => cases x <;> rfl
 | _ => rfl
theorem sliceA_local {C : Cfg} {H H' : Hs} {t : TypeId} {x : AV} {lo hi : Option AV} {mx : Bool} (h : ∀ id ∈ idOf x, H' id = H id) : sliceA C H' t x lo hi mx = sliceA C H t x lo hi mx := by
 unfold sliceA
 cases C.ty t with
 | none => rfl
 | some y =>
  obtain ⟨desc, size, bytes, zero⟩ := y
  cases x with
  | sl id a b =>
   have hid := h id (by simp [idOf])
   cases desc <;> first | rfl | simp only [hid]
  | d x => cases x <;> cases desc <;> rfl
  | _ => cases desc <;> rfl
theorem indexAddrA_local {C : Cfg} {H H' : Hs} {t : TypeId} {x i : AV} (h : ∀ id ∈ idOf x, H' id = H id) : indexAddrA C H' t x i = indexAddrA C H t x i := by
 unfold indexAddrA
 cases x with
 | sl id a b => simp only [h id (by simp [idOf])]
 | d x => cases x <;> rfl
 | _ => rfl
theorem storeA_local {C : Cfg} {H H' : Hs} {t : TypeId} {p v : AV} (h : ∀ id ∈ idOf p, H' id = H id) {H1 : Hs} (hs : storeA C H t p v = some H1) :
  ∃ id hm, idOf p = [id] ∧ H1 = upd H id hm ∧ storeA C H' t p v = some (upd H' id hm) := by
 unfold storeA at hs ⊢
 cases hz : sizeT C t with
 | none => simp [hz] at hs
 | some n =>
  simp only [hz] at hs ⊢
  cases p with
  | pt id off =>
   have hid := h id (by simp [idOf])
   simp only [hid] at hs ⊢
   split at hs
   ·split at hs
    ·rename_i hc
     cases hs
     exact ⟨id, _, rfl, rfl, by rw [if_pos hc]⟩
    ·cases hs
   ·cases hs
  | pe id i j =>
   have hid := h id (by simp [idOf])
   simp only [hid] at hs ⊢
   split at hs
   ·split at hs
    ·split at hs
     ·rename_i hc
      split at hs
      ·cases hs
       exact ⟨id, _, rfl, rfl, by rw [if_pos hc]⟩
      ·split at hs
       ·cases hs
        exact ⟨id, _, rfl, rfl, by rw [if_pos hc]⟩
       ·cases hs
     ·cases hs
    ·cases hs
   ·cases hs
  | _ => cases hs
theorem baseA_local {H H' : Hs} {r : Row} {s : AV} (h : ∀ id ∈ idOf s, H' id = H id) {xs : List Dat} {H1 : Hs} (hs : baseA H r s = some (xs, H1)) :
  ∃ H1', baseA H' r s = some (xs, H1') ∧ (∀ id, id ∈ idOf s → H1' id = H1 id) ∧ ∀ id, id ∉ idOf s → H1' id = H' id ∧ H1 id = H id := by
 cases s with
 | nil =>
  simp only [baseA, Option.some.injEq, Prod.mk.injEq] at hs
  obtain ⟨rfl, rfl⟩ := hs
  exact ⟨H', rfl, h, fun _ _ => ⟨rfl, rfl⟩⟩
 | sl id lo hi =>
  have hid := h id (by simp [idOf])
  simp only [baseA, hid] at hs ⊢
  split at hs
  ·split at hs
   ·rename_i hc
    cases hs
    rw [if_pos hc]
    exact ⟨_, rfl, fun j hj => by simp [idOf] at hj; subst hj; simp [upd], fun j hj => by simp [idOf] at hj; simp [upd, hj]⟩
   ·cases hs
  ·cases hs
 | _ => cases hs
theorem In.local {X : Nat → Prop} {H H' H1 H1' : Hs} (h : In X H H' H1 H1') {f : Ft} (hf : f.md = X) : Local f H H' H1 H1' :=
 ⟨fun i hi => h.on i (by rwa [Ft.mods, hf] at hi), fun i hi => h.off i (by rwa [Ft.mods, hf] at hi)⟩
theorem act_local {C : Cfg} {H : Hs} {nx : Nat} {e : Operand → AV} {o : Op} {x : AV} {H1 : Hs} {n1 : Nat} (h : act C H nx e o = some (x, H1, n1)) (H' : Hs)
  (hH : ∀ id, (footA C H nx n1 e o).looks id ∨ (footA C H nx n1 e o).mods id → H' id = H id) :
  ∃ H1', act C H' nx e o = some (x, H1', n1) ∧ Local (footA C H nx n1 e o) H H' H1 H1' := by
 by_cases hq : quietOp o = true
 ·obtain ⟨h1, h2, h3⟩ := act_quiet hq h H'
  subst h1 h2
  exact ⟨H', h3, .quiet fun id hm => hH id (.inr hm)⟩
 ·have fresh : ∀ {f : Ft} {q : Home}, f = .of [] [nx] → (∀ id, f.looks id ∨ f.mods id → H' id = H id) → Local f H H' (upd H nx q) (upd H' nx q) := fun {f} {q} hf hH =>
   upd_local (X := f.md) (by rw [hf]; simp [Ft.of]) rfl (fun id hm => hH id (.inr hm))
  cases o with
  | alloc t =>
   simp only [act] at h ⊢
   obtain ⟨y, hy, h⟩ := Option.bind_eq_some_iff.1 h
   cases h
   exact ⟨_, by rw [hy]; rfl, fresh rfl hH⟩
  | makeSlice t l c =>
   simp only [act] at h ⊢
   obtain ⟨y, hy, h⟩ := Option.map_eq_some_iff.1 h
   cases h
   exact ⟨_, by rw [hy]; rfl, fresh rfl hH⟩
  | makeMap t r =>
   simp only [act] at h ⊢
   split at h
   ·cases h
    exact ⟨_, rfl, fresh rfl hH⟩
   ·cases h
  | box t a =>
   simp only [act] at h ⊢
   obtain ⟨y, hy, h⟩ := Option.bind_eq_some_iff.1 h
   split at h
   ·rename_i hc
    cases h
    exact ⟨_, by rw [hy]; simp only [Option.bind_some]; rw [if_pos hc], fresh rfl hH⟩
   ·cases h
  | buildSlice t len ps =>
   by_cases hp : (ps.toList.all fun (_, x) => (datA (e x)).isSome) = true
   ·have hf : footA C H nx n1 e (.buildSlice t len ps) = .of [] [nx] := by simp only [footA, hp, if_true]
    rw [hf] at hH ⊢
    simp only [act] at h ⊢
    split at h
    ·rename_i el hel
     split at h
     ·rename_i z ye hz hye
      split at h
      ·rename_i hc
       split at h
       ·rename_i xs H2 hpd
        cases h
        obtain ⟨h1, h2⟩ := partsD_plain (fun q hq => by
         obtain ⟨p, hpm, rfl⟩ := List.mem_map.1 hq
         exact List.all_eq_true.1 hp p hpm) hpd H'
        subst h1
        rw [if_pos hc, h2]
        exact ⟨_, rfl, fresh rfl hH⟩
       ·cases h
      ·cases h
     ·cases h
    ·cases h
   ·have hf : footA C H nx n1 e (.buildSlice t len ps) = ⟨Leads H (ps.toList.map fun (_, x) => e x), fun i => i = nx ∨ Leads H (ps.toList.map fun (_, x) => e x) i⟩ := by simp only [footA]; rw [if_neg hp]
    rw [hf] at hH ⊢
    simp only [act] at h ⊢
    split at h
    ·rename_i el hel
     split at h
     ·rename_i z ye hz hye
      split at h
      ·rename_i hc
       split at h
       ·rename_i xs H2 hpd
        cases h
        obtain ⟨H2', h2, i2⟩ := partsD_loc _ (Leads.closed H _) (fun i hi => hH i (.inl hi)) (fun p hp i hm => by
         obtain ⟨q, hq, rfl⟩ := List.mem_map.1 hp
         exact .arg (e q.2) (List.mem_map.2 ⟨q, hq, rfl⟩) hm) hpd
        rw [if_pos hc, h2]
        refine ⟨_, rfl, fun i hi => ?_, fun i hi => ?_⟩
        ·simp only [upd]
         split
         ·rfl
         ·rename_i hne
          exact i2.on i (hi.resolve_left hne)
        ·have h3 : ¬ i = nx := fun e => hi (.inl e)
         simp only [upd, h3, if_false]
         exact i2.off i fun h => hi (.inr h)
       ·cases h
      ·cases h
     ·cases h
    ·cases h
  | load t p =>
   have hl := loadA_local (C := C) (t := t) (fun id hi => hH id (.inl hi))
   simp only [act] at h ⊢
   obtain ⟨rfl, rfl, h3⟩ := map_pure h H'
   exact ⟨H', by rw [hl]; exact h3, .quiet fun id hm => by simp [Ft.mods, footA, Ft.of] at hm⟩
  | slice t a lo hi mx =>
   have hl := sliceA_local (C := C) (t := t) (lo := lo.map e) (hi := hi.map e) (mx := mx.isSome) (fun id hi => hH id (.inl hi))
   simp only [act] at h ⊢
   obtain ⟨rfl, rfl, h3⟩ := map_pure h H'
   exact ⟨H', by rw [hl]; exact h3, .quiet fun id hm => by simp [Ft.mods, footA, Ft.of] at hm⟩
  | indexAddr t a i =>
   have hl := indexAddrA_local (C := C) (t := t) (i := e i) (fun id hi => hH id (.inl hi))
   simp only [act] at h ⊢
   obtain ⟨rfl, rfl, h3⟩ := map_pure h H'
   exact ⟨H', by rw [hl]; exact h3, .quiet fun id hm => by simp [Ft.mods, footA, Ft.of] at hm⟩
  | lookup t m a ok =>
   have hl : lookupA C H' t (e m) (e a) ok = lookupA C H t (e m) (e a) ok := by
    cases hm : e m with
    | mp id =>
     have h1 : H' id = H id := hH id (.inl (show id ∈ idOf (e m) by rw [hm]; simp [idOf]))
     unfold lookupA
     cases datA (e a) with
     | none => rfl
     | some key =>
      cases mapT C t with
      | none => rfl
      | some q => simp only [h1]
    | _ => rfl
   simp only [act] at h ⊢
   obtain ⟨rfl, rfl, h3⟩ := map_pure h H'
   exact ⟨H', by rw [hl]; exact h3, .quiet fun id hm => by simp [Ft.mods, footA, Ft.of] at hm⟩
  | mapUpdate t m a v =>
   simp only [act] at h ⊢
   obtain ⟨H2, h2, he⟩ := Option.map_eq_some_iff.1 h
   simp only [Prod.mk.injEq] at he
   obtain ⟨rfl, rfl, rfl⟩ := he
   unfold mapUpdA at h2 ⊢
   split at h2
   ·rename_i id key k el d H3 hm hd hmt hfz
    split at h2
    ·rename_i es hes
     split at h2
     ·rename_i hk
      obtain ⟨es1, hput, rfl⟩ := Option.map_eq_some_iff.1 h2
      by_cases hp : (datA (e v)).isSome = true
      ·have hf : footA C H nx nx e (.mapUpdate t m a v) = .of [id] [id] := by simp only [footA, hp, if_true, hm, idOf]
       rw [hf] at hH ⊢
       obtain ⟨h3, h4⟩ := frz_plain hp hfz H'
       subst h3
       have hid : H' id = H3 id := hH id (.inl (show id ∈ [id] from List.mem_singleton.2 rfl))
       refine ⟨upd H' id (.map es1), ?_, upd_local (X := (Ft.of [id] [id]).md) (by simp [Ft.of]) rfl (fun j hj => hH j (.inr hj))⟩
       simp only [hm, hd, hmt, h4, hid, hes, if_pos hk, hput, Option.map_some]
      ·have hf : footA C H nx nx e (.mapUpdate t m a v) = ⟨Leads H [e m, e v], Leads H [e m, e v]⟩ := by simp only [footA]; rw [if_neg hp]
       rw [hf] at hH ⊢
       obtain ⟨H3', h4, i3⟩ := frz_loc 4 (Leads.closed H [e m, e v]) (fun i hi => hH i (.inl hi)) (fun i hi => .arg _ (by simp) hi) hfz
       have hx : Leads H [e m, e v] id := .arg (e m) (by simp) (by rw [hm]; exact .mp)
       refine ⟨upd H3' id (.map es1), ?_, (i3.upd hx (fun cs => by simp)).local rfl⟩
       simp only [hm, hd, hmt, h4, i3.on id hx, hes, if_pos hk, hput, Option.map_some]
     ·cases h2
    ·cases h2
   ·cases h2
  | store t p v =>
   simp only [act] at h ⊢
   obtain ⟨H2, h2, he⟩ := Option.map_eq_some_iff.1 h
   simp only [Prod.mk.injEq] at he
   obtain ⟨rfl, rfl, rfl⟩ := he
   obtain ⟨id, hm, hid, rfl, h3⟩ := storeA_local (fun id hi => hH id (.inl hi)) h2
   exact ⟨_, by rw [h3]; rfl, upd_local (X := fun i => i ∈ idOf (e p)) (by rw [hid]; simp) rfl (fun j hj => hH j (.inr hj))⟩
  | call c =>
   obtain ⟨callee, args, ats⟩ := c
   simp only [act] at h
   split at h
   ·simp [quietOp] at hq
   ·split at h
    ·rename_i s0 x0 ts tx hx ht
     have hf : footA C H nx n1 e (.call ⟨.builtin .append, args, ats⟩) = .of (idOf (e s0) ++ idOf (e x0)) (nx :: idOf (e s0)) := by simp only [footA, hx]
     rw [hf] at hH ⊢
     have hs0 : ∀ id ∈ idOf (e s0), H' id = H id := fun id hi => hH id (.inl (by simp [Ft.looks, Ft.of, hi]))
     have hx0 : ∀ id ∈ idOf (e x0), H' id = H id := fun id hi => hH id (.inl (by simp [Ft.looks, Ft.of, hi]))
     simp only [act, hx, ht]
     unfold appendA at h ⊢
     split at h
     ·rename_i htt
      rw [if_pos htt]
      split at h
      ·cases h
      ·split at h
       ·cases h
       ·rename_i ye hye
        split at h
        ·rename_i xs H2 new hb hn
         split at h
         ·rename_i hc
          simp only [Option.some.injEq, Prod.mk.injEq] at h
          obtain ⟨rfl, rfl, rfl⟩ := h
          obtain ⟨H2', h3, h4, h5⟩ := baseA_local hs0 hb
          rw [h3, see1_local hx0 hn]
          simp only [if_pos hc]
          refine ⟨_, rfl, fun id hm => ?_, fun id hm => ?_⟩
          ·simp only [upd]
           split
           ·rfl
           ·rename_i hne
            refine h4 id ?_
            simp only [Ft.mods, Ft.of, List.mem_cons] at hm
            exact hm.resolve_left hne
          ·simp only [Ft.mods, Ft.of, List.mem_cons, not_or] at hm
           simp only [upd, hm.1, if_false]
           exact h5 id hm.2
         ·cases h
        ·cases h
     ·cases h
    ·cases h
   ·simp [quietOp] at hq
   ·simp [quietOp] at hq
   ·cases h
  | _ => first | (simp [quietOp] at hq; done) | (simp [act] at h; done)
end Go.Jv
