/- append onto a slice of the call's own. -/
import Derived.Test.YtdcpfmjnkcodiaaDoorJvL
namespace Go.Jv

section
variable {P : Program} {C : Cfg} {S0 L0 : Nat → Prop} {w0 : World} {S : Nat → Prop} {B : Nat → Option Pl} {H : Hs} {F : Nat → Prop} {nx : Nat} {w : World}

/-- a step that leaves all old blocks but one row as they were: what lies in S stays -/
theorem same_grown {row : Option Nat} {w' : World} (hg : w.grownBy w' row) (hlt : ∀ b, S b → b < w.heap.size) (hrow : ∀ b, row = some b → ¬ S b) : Same S w w' :=
  fun b hb => hg.block b (hlt b hb) (fun e => hrow b e.symm hb)

/-- a new home in a world grown so -/
theorem Mem.grown (hM : Mem C S0 L0 w0 S B H F w) (hF : F nx) {row : Option Nat} {w' : World} (hg : w.grownBy w' row)
    (hrow : ∀ b, row = some b → ¬ S b ∧ (L0 b ∨ w0.heap.size ≤ b) ∧ ∀ id p, (H id).live = true → B id = some p → p.blk ≠ b) (q : Option Pl)
    (hq : ∀ p, q = some p → row = some p.blk ∨ p.blk = w.heap.size) (h : Home) (hh : HR S w' (upd B nx q) nx h) :
    Mem C S0 L0 w0 S (upd B nx q) (upd H nx h) (took F nx (nx + 1)) w' ∧ Ext B (upd B nx q) := by
  have hE : Ext B (upd B nx q) := fun id p hp => by
    have : id ≠ nx := fun e => by subst e; rw [hM.freshB _ hF] at hp; cases hp
    simp [upd, this, hp]
  have hs := same_grown hg hM.lt (fun b hb => (hrow b hb).1)
  have hold : ∀ id, id ≠ nx → ∀ p, (H id).live = true → upd B nx q id = some p → B id = some p ∧ p.blk < w.heap.size := by
    intro id hne p hl hp
    simp only [upd, hne, if_false] at hp
    exact ⟨hp, (hM.homes id).lt hl p hp⟩
  have hnew : ∀ p, upd B nx q nx = some p → row = some p.blk ∨ p.blk = w.heap.size := fun p hp => hq p (by simpa [upd] using hp)
  have hapart : ∀ id, id ≠ nx → ∀ p p', (H id).live = true → upd B nx q id = some p → upd B nx q nx = some p' → p.blk ≠ p'.blk := by
    intro id hne p p' hl hp hp'
    obtain ⟨h1, h2⟩ := hold id hne p hl hp
    rcases hnew p' hp' with h3 | h3
    · exact (hrow _ h3).2.2 id p hl h1
    · omega
  refine ⟨⟨?_, ?_, ?_, ?_, ?_, ?_, ?_, hg.os.trans hM.os, hg.tape.trans hM.tape, hg.output.trans hM.output, Nat.le_trans hM.size hg.size, ?_, hM.sub, ?_, hM.sIn⟩, hE⟩
  · intro id
    by_cases e : id = nx
    · subst e; simpa [upd] using hh
    · simp only [upd, e, if_false]
      exact (hM.homes id).mono (fun _ hb => hb) hs hE (fun _ hn => by simp [upd, e, hn])
        (fun hl p hp => hg.block _ ((hM.homes id).lt hl p hp) (fun e' => (hrow _ e'.symm).2.2 id p hl hp rfl))
  · intro id hid
    have : id ≠ nx := by have := hid.2; omega
    simp [upd, this, hM.fresh id hid.1]
  · intro id hid
    have : id ≠ nx := by have := hid.2; omega
    simp [upd, this, hM.freshB id hid.1]
  · intro id id' p p' hl hl' hp hp' hne
    by_cases e : id = nx
    · subst e
      have e' : id' ≠ id := fun h => hne h.symm
      simp only [upd, e', if_false] at hl'
      exact (hapart id' e' p' p hl' hp' hp).symm
    · simp only [upd, e, if_false] at hl
      by_cases e' : id' = nx
      · subst e'
        exact hapart id e p p' hl hp hp'
      · simp only [upd, e', if_false] at hl'
        exact hM.inj id id' p p' hl hl' (hold id e p hl hp).1 (hold id' e' p' hl' hp').1 hne
  · intro id p hl hp hS
    by_cases e : id = nx
    · subst e
      rcases hnew p hp with h3 | h3
      · exact (hrow _ h3).1 hS
      · have := hM.lt _ hS; omega
    · simp only [upd, e, if_false] at hl
      exact hM.off id p hl (hold id e p hl hp).1 hS
  · intro b hb
    have := hM.lt b hb
    have := hg.size; omega
  · intro g cs hc
    exact (hM.glob g cs hc).mono (fun _ h => h) hs
  · intro b hb hl
    rw [hg.block b (by have := hM.size; omega) (fun e => by
      rcases (hrow b e.symm).2.1 with h1 | h1
      · exact hl h1
      · omega)]
    exact hM.keep b hb hl
  · intro id p hl hp
    by_cases e : id = nx
    · subst e
      rcases hnew p hp with h3 | h3
      · exact (hrow _ h3).2.1
      · exact .inr (by have := hM.size; omega)
    · simp only [upd, e, if_false] at hl
      exact hM.liveIn id p hl (hold id e p hl hp).1

theorem RowL.app {sz : Nat} {xs ys : List Dat} {us vs : List Value} (h : RowL S w sz xs us) (k : RowL S w sz ys vs) : RowL S w sz (xs ++ ys) (us ++ vs) := by
  refine ⟨by simp [h.1, k.1, Nat.add_mul], fun i x hx => ?_⟩
  by_cases hi : i < xs.length
  · rw [List.getElem?_append_left hi] at hx
    have hle : (i + 1) * sz ≤ xs.length * sz := Nat.mul_le_mul_right _ hi
    rw [Nat.succ_mul] at hle
    obtain ⟨h1, h2⟩ := h.2 i x hx
    refine ⟨h1, ?_⟩
    have : ((us ++ vs).drop (i * sz)).take sz = (us.drop (i * sz)).take sz := by
      rw [List.drop_append_of_le_length (by rw [h.1]; omega), List.take_append_of_le_length (by simp [h.1]; omega)]
    rw [this]; exact h2
  · rw [List.getElem?_append_right (by omega)] at hx
    obtain ⟨h1, h2⟩ := k.2 (i - xs.length) x hx
    refine ⟨h1, ?_⟩
    have : ((us ++ vs).drop (i * sz)).take sz = (vs.drop ((i - xs.length) * sz)).take sz := by
      have e : i * sz = us.length + (i - xs.length) * sz := by rw [h.1, ← Nat.add_mul]; congr 1; omega
      rw [e, List.drop_append, List.drop_eq_nil_of_le (by omega)]
      simp
    rw [this]; exact h2

theorem RowL.nil (sz : Nat) : RowL S w sz [] [] := ⟨by simp, fun i x h => by simp at h⟩

/-- the first elements of a row -/
theorem RowR.rowL {p : Pl} {arr : Array Value} {xs : List Dat} (h : RowR S w p arr xs) (lo hi : Nat) (h1 : lo ≤ hi) (h2 : hi ≤ xs.length) : RowL S w p.sz (win xs lo hi) ((arr.toList.drop (lo * p.sz)).take ((hi - lo) * p.sz)) := by
  have hwl := win_length h1 h2
  have hcap := h.2.1
  have hle : hi * p.sz ≤ p.cap * p.sz := Nat.mul_le_mul_right _ (by omega)
  have hsub : (hi - lo) * p.sz = hi * p.sz - lo * p.sz := Nat.sub_mul ..
  refine ⟨?_, fun i x hx => ?_⟩
  · rw [hwl, List.length_take, List.length_drop, Array.length_toList, h.1]
    omega
  · obtain ⟨hx', hi'⟩ := win_get hx
    obtain ⟨he, hz, _⟩ := h.elem hx'
    refine ⟨hz, ?_⟩
    have hle2 : (i + 1) * p.sz ≤ (hi - lo) * p.sz := Nat.mul_le_mul_right _ hi'
    rw [Nat.succ_mul] at hle2
    rw [drop_take_drop _ _ _ _ _ (by omega), ← Nat.add_mul]
    exact he

/-- a row that begins with elements known -/
theorem RowL.pre {p : Pl} {arr : Array Value} {xs : List Dat} {us : List Value} (h : RowL S w p.sz xs us) (hu : arr.toList.take (xs.length * p.sz) = us) (hs : arr.size = p.cap * p.sz) (hc : xs.length ≤ p.cap) (hm : p.cap ≤ maxLen) : RowR S w p arr xs := by
  refine ⟨hs, hc, hm, fun i x hx => (h.2 i x hx).1, fun i x j c hx hj => ?_⟩
  obtain ⟨hz, hC⟩ := h.2 i x hx
  have hjl : j < x.cells.length := (List.getElem?_eq_some_iff.1 hj).1
  have hil : i < xs.length := (List.getElem?_eq_some_iff.1 hx).1
  have hle2 : (i + 1) * p.sz ≤ xs.length * p.sz := Nat.mul_le_mul_right _ hil
  rw [Nat.succ_mul] at hle2
  have hjl' : j < ((us.drop (i * p.sz)).take p.sz).length := by rw [← hC.1]; exact hjl
  obtain ⟨u, hv⟩ : ∃ u, ((us.drop (i * p.sz)).take p.sz)[j]? = some u := ⟨_, List.getElem?_eq_getElem hjl'⟩
  have := hC.2 j c _ hj hv
  refine ⟨_, ?_, this.1, this.2⟩
  rw [List.getElem?_take, if_pos (by omega), List.getElem?_drop, ← hu, List.getElem?_take, if_pos (by omega)] at hv
  simpa using hv

theorem addr_add (b o j : Nat) : (⟨b, o, none⟩ : Addr).add j = ⟨b, o + j, none⟩ := by
  unfold Addr.add
  split
  · rename_i h; subst h; rfl
  · rfl

/-- what 'append' appends -/
theorem news_sound (hM : Mem C S0 L0 w0 S B H F w) {x : AV} {v : Value} (hx : AVR S w B x v) {new : List Dat} (h : see 1 H x = some (.lst new)) {sz : Nat} (hz : ∀ y ∈ new, y.cells.length = sz) :
    (v = .slice none 0 0 ∧ new = []) ∨ ∃ a c news, v = .slice (some a) new.length c ∧ c ≤ maxLen ∧ new.length ≤ c ∧ (∀ j u, news[j]? = some u → w.cell? (a.add j) = some u) ∧ RowL S w sz new news := by
  cases x with
  | d x0 =>
    simp only [see, Option.some.injEq] at h
    subst h
    cases hx with
    | d _ _ hx =>
    cases hx with
    | nil => exact .inl ⟨rfl, rfl⟩
    | emp a cap hm => exact .inr ⟨a, cap, [], rfl, hm, Nat.zero_le _, fun j u hj => by simp at hj, by simp, fun i x hx => by simp at hx⟩
    | lst _ b off cap sz' us hS hl hm hzz hc ho hv =>
      have hsz : ∀ i x, new[i]? = some x → sz' = sz := fun i x hi => (hzz i x hi).symm.trans (hz x (List.mem_of_getElem? hi))
      refine .inr ⟨⟨b, off, none⟩, cap, (List.range (new.length * sz)).map (fun k => us (k / sz) (k % sz)), rfl, hm, hl, ?_, ?_⟩
      · intro j u hj
        obtain ⟨hj1, hj2⟩ := List.getElem?_eq_some_iff.1 hj
        simp only [List.length_map, List.length_range] at hj1
        have hpos : 0 < sz := Nat.pos_of_ne_zero (fun e => by subst e; simp at hj1)
        have hi : j / sz < new.length := (Nat.div_lt_iff_lt_mul hpos).2 hj1
        have e := hsz _ _ (List.getElem?_eq_getElem hi)
        subst e
        rw [← hj2]
        have := hc (j / sz') (j % sz') hi (Nat.mod_lt _ hpos)
        rw [Nat.mul_comm, Nat.div_add_mod] at this
        rw [addr_add]; simpa using this
      · refine ⟨by simp, fun i x hx => ?_⟩
        have e := hsz i x hx
        subst e
        have hzx := hz x (List.mem_of_getElem? hx)
        have hi : i < new.length := (List.getElem?_eq_some_iff.1 hx).1
        have hle : (i + 1) * sz' ≤ new.length * sz' := Nat.mul_le_mul_right _ hi
        rw [Nat.succ_mul] at hle
        refine ⟨hzx, by simp [hzx]; omega, fun j c u hj hu => ?_⟩
        have hjl : j < sz' := by have := (List.getElem?_eq_some_iff.1 hj).1; omega
        rw [List.getElem?_take, if_pos hjl, List.getElem?_drop] at hu
        obtain ⟨hu1, hu2⟩ := List.getElem?_eq_some_iff.1 hu
        simp only [List.getElem_map, List.getElem_range] at hu2
        have e1 : (i * sz' + j) / sz' = i := by rw [Nat.mul_comm, Nat.mul_add_div (by omega), Nat.div_eq_of_lt hjl]; omega
        have e2 : (i * sz' + j) % sz' = j := by rw [Nat.mul_comm, Nat.mul_add_mod, Nat.mod_eq_of_lt hjl]
        rw [e1, e2] at hu2
        rw [← hu2]
        exact ⟨ho i j hi hjl, hv i x j c hx hj⟩
  | nil => simp only [see, Option.some.injEq, Dat.lst.injEq] at h; subst h; cases hx; exact .inl ⟨rfl, rfl⟩
  | sl id lo hi =>
    have key : ∀ (xs : List Dat), (∀ p, B id = some p → ∃ arr e fr, w.heap[p.blk]? = some (.cells arr e fr) ∧ RowR S w p arr xs) →
        (if lo ≤ hi ∧ hi ≤ xs.length then some (Dat.lst (win xs lo hi)) else none) = some (.lst new) →
        (v = .slice none 0 0 ∧ new = []) ∨ ∃ a c news, v = .slice (some a) new.length c ∧ c ≤ maxLen ∧ new.length ≤ c ∧ (∀ j u, news[j]? = some u → w.cell? (a.add j) = some u) ∧ RowL S w sz new news := by
      intro xs hrow h
      split at h
      · rename_i hb
        cases h
        have hwl := win_length hb.1 hb.2
        rcases hx.slCases with ⟨rfl, rfl, rfl⟩ | ⟨p, off, c, hp, rfl, h1, h2, h3, h4, _⟩
        · exact .inl ⟨rfl, by simp [win]⟩
        · right
          by_cases he : lo = hi
          · subst he
            have hnil : win xs lo lo = [] := List.eq_nil_of_length_eq_zero (by omega)
            exact ⟨⟨p.blk, off, none⟩, c, [], by rw [hnil]; simp, h3, by rw [hnil]; simp, fun j u hj => by simp at hj, by rw [hnil]; exact RowL.nil sz⟩
          · obtain rfl := h4.resolve_right he
            obtain ⟨arr, e, fr, hb', hr⟩ := hrow p hp
            have hx0 : (win xs lo hi)[0]? = some ((win xs lo hi)[0]'(by omega)) := List.getElem?_eq_getElem _
            have hsz : p.sz = sz := by
              have h5 := (hr.elem (win_get hx0).1).2.1
              have h6 := hz _ (List.mem_of_getElem? hx0)
              omega
            have hL := hr.rowL lo hi hb.1 hb.2
            refine ⟨_, c, _, by rw [hwl], h3, by omega, ?_, by rw [← hsz]; exact hL⟩
            intro j u hj
            rw [List.getElem?_take] at hj
            split at hj
            · rw [List.getElem?_drop] at hj
              rw [addr_add, cell_of_row w p.blk _ arr e fr hb']
              simpa using hj
            · cases hj
      · cases h
    have hh := hM.homes id
    cases hH : H id with
    | own z xs =>
      rw [hH] at hh
      simp only [see, hH] at h
      refine key xs (fun p hp => ?_) h
      cases hh with
      | own _ p' arr e hp' hb hr => rw [hp'] at hp; cases hp; exact ⟨arr, e, _, hb, hr⟩
      | ownz _ hn => rw [hn] at hp; cases hp
    | imm z xs =>
      rw [hH] at hh
      simp only [see, hH] at h
      refine key xs (fun p hp => ?_) h
      cases hh with
      | imm _ p' arr e fr hp' hS hb hr => rw [hp'] at hp; cases hp; exact ⟨arr, e, _, hb, hr⟩
      | immz _ hn => rw [hn] at hp; cases hp
    | box cs => simp [see, hH] at h
    | immb cs => simp [see, hH] at h
    | dead => simp [see, hH] at h
  | undef => simp [see] at h
  | pt id off =>
    simp only [see] at h
    split at h <;> simp at h
  | pe id i j => simp [see] at h
  | agg cs => simp [see] at h
  | tup cs => simp [see] at h
  | fn f cs => simp [see] at h
  | bad => simp [see] at h

theorem elemT_sound (V : Valid P C) {t el : TypeId} (ht : elemT C t = some el) : P.underlying t = some (.slice el) := by
  unfold elemT at ht
  split at ht
  · rename_i y hy
    split at ht
    · rename_i e' hd
      cases ht
      exact (V.ty t y hy).1.trans (by rw [hd])
    · cases ht
  · cases ht

/-- what the base of an 'append' holds; the home is given up -/
theorem base_sound (hM : Mem C S0 L0 w0 S B H F w) {x : AV} {v : Value} (hx : AVR S w B x v) {e : TypeId} {sz : Nat} {xs : List Dat} {H1 : Hs}
    (h : baseA H ⟨e, sz⟩ x = some (xs, H1)) :
    Mem C S0 L0 w0 S B H1 F w ∧ ∃ us, w.ownsRow 0 e sz v xs.length us ∧ RowL S w sz xs us ∧
      ∀ b, v.ownBlock = some b → ¬ S b ∧ (L0 b ∨ w0.heap.size ≤ b) ∧ ∀ id p, (H1 id).live = true → B id = some p → p.blk ≠ b := by
  cases x <;> simp only [baseA, reduceCtorEq] at h
  · cases h
    cases hx
    exact ⟨hM, [], World.ownsRow_nil w 0 e sz, RowL.nil sz, fun b hb => by simp [Value.ownBlock] at hb⟩
  · rename_i id lo hi
    split at h
    · rename_i z ys hH
      split at h
      · rename_i hc
        obtain ⟨rfl, hle, rfl⟩ := hc
        cases h
        refine ⟨hM.drop id, ?_⟩
        have hlen : (ys.take hi).length = hi := by simp; omega
        rcases hx.slCases with ⟨_, rfl, rfl⟩ | ⟨p, off, c, hp, rfl, h1, h2, h3, h4, h5⟩
        · exact ⟨[], by simpa using World.ownsRow_nil w 0 e sz, by simpa using RowL.nil sz, fun b hb => by simp [Value.ownBlock] at hb⟩
        · obtain ⟨rfl, rfl, h6⟩ := h5 rfl
          have hh := hM.homes id
          rw [hH] at hh
          cases hh with
          | ownz _ hn => rw [hn] at hp; cases hp
          | own _ p' arr _ hp' hb hr =>
            rw [hp'] at hp
            cases hp
            have hL := hr.rowL 0 hi (Nat.zero_le _) hle
            simp only [win, List.drop_zero, Nat.sub_zero, Nat.zero_mul] at hL
            refine ⟨_, ?_, hL, ?_⟩
            · rw [hlen]
              exact ⟨by rw [hL.1, hlen], .inr ⟨p.blk, p.cap, arr, by simp, Nat.zero_le _, hb, h6, h3, hr.1, rfl⟩⟩
            · intro b hb'
              simp only [Value.ownBlock, Option.some.injEq] at hb'
              subst hb'
              refine ⟨hM.off id p (by rw [hH]; rfl) hp', hM.liveIn id p (by rw [hH]; rfl) hp', fun j q hl hq => ?_⟩
              have hj : j ≠ id := fun e => by subst e; simp [upd, Home.live] at hl
              simp only [upd, hj, if_false] at hl
              exact hM.inj j id q p hl (by rw [hH]; rfl) hq hp' hj
      · cases h
    · cases h

theorem append_step (V : Valid P C) (hM : Mem C S0 L0 w0 S B H F w) (hF : F nx) {ts tx ty : TypeId} {s x r : AV} {sv xv : Value} (hs : AVR S w B s sv) (hx : AVR S w B x xv) {H1 : Hs} {n1 : Nat}
    (h : appendA C H nx ts tx s x = some (r, H1, n1)) :
    StepR C S0 L0 w0 S B F nx w ((do pure (.value (← Builtin.append_ #[ts, tx] ty #[sv, xv])) : Sem Next).run P w) r H1 n1 := by
  unfold appendA at h
  split at h
  · rename_i htt
    subst htt
    split at h
    · cases h
    · rename_i e hte
      split at h
      · cases h
      · rename_i ye hye
        have hun := elemT_sound V hte
        obtain ⟨_, i, z, hi, hsz, hby, hz, hzr⟩ := V.ty e ye hye
        split at h
        · rename_i xs H2 new hb hn
          split at h
          · rename_i hc
            cases h
            obtain ⟨hall, hpos, hbp, hbytes⟩ := hc
            have hall' : ∀ y ∈ new, y.cells.length = ye.size := fun y hy => by simpa using List.all_eq_true.1 hall y hy
            obtain ⟨hM2, us, hown, hL, hrow⟩ := base_sound hM hs hb
            have hmax : xs.length + new.length ≤ maxLen := by
              have : (xs.length + new.length) * 1 ≤ (xs.length + new.length) * ye.bytes := Nat.mul_le_mul_left _ hbp
              simp only [maxLen]; omega
            -- what the call leaves, in every case
            have key : ∃ v' w' news, (Builtin.append_ #[ts, ts] ty #[sv, xv]).run P w = .ok v' w' ∧ w'.ownsRow 0 e ye.size v' (xs.length + new.length) (us ++ news) ∧ w.grownBy w' sv.ownBlock ∧
                (v'.ownBlock = sv.ownBlock ∨ v'.ownBlock = some w.heap.size) ∧ RowL S w ye.size new news := by
              rcases news_sound hM hx hn hall' with ⟨rfl, rfl⟩ | ⟨a, c, news, rfl, hcm, hcl, hcells, hLn⟩
              · exact ⟨sv, w, [], run_append_owned_none w 0 ts ty e i ye.size hun hi sv xs.length us hown, by simpa using hown, ⟨rfl, rfl, rfl, Nat.le_refl _, fun _ _ _ => rfl⟩, .inl rfl, RowL.nil _⟩
              · have hone : ∀ u ∈ news, u.oneCell' = true := by
                  intro u hu
                  obtain ⟨k, hk⟩ := List.getElem?_of_mem hu
                  have hkl : k < news.length := (List.getElem?_eq_some_iff.1 hk).1
                  rw [hLn.1] at hkl
                  have hdi : k / ye.size < new.length := (Nat.div_lt_iff_lt_mul hpos).2 hkl
                  obtain ⟨_, hC⟩ := hLn.2 _ _ (List.getElem?_eq_getElem hdi)
                  refine hC.one u (List.mem_of_getElem? (i := k % ye.size) ?_)
                  rw [List.getElem?_take, if_pos (Nat.mod_lt _ hpos), List.getElem?_drop, Nat.mul_comm, Nat.div_add_mod]
                  exact hk
                obtain ⟨v', w', h1, h2, h3, _, h5⟩ := run_append_own_at (P := P) w 0 ts ty e i z ye.size ye.bytes hun hi hz hsz hby hzr.1 hpos sv xs.length us hown a new.length c news hLn.1 hcells hone hmax hbytes (Nat.zero_le _)
                exact ⟨v', w', news, h1, h2, h3, h5, hLn⟩
            obtain ⟨v', w', news, hrun, hown', hgr, hat, hLn⟩ := key
            have hsame := same_grown hgr hM.lt (fun b hb => (hrow b hb).1)
            have hLall := (hL.app hLn).mono (fun _ h => h) hsame
            rcases hown'.2 with ⟨rfl, h0⟩ | ⟨g, cap, cur, rfl, _, hg, hnc, hcm, hcs, htake⟩
            · have hx0 : xs = [] := List.eq_nil_of_length_eq_zero (by omega)
              have hn0 : new = [] := List.eq_nil_of_length_eq_zero (by omega)
              subst hx0 hn0
              have hBn : upd B nx none nx = none := by simp [upd]
              obtain ⟨hM3, hE⟩ := hM2.grown hF hgr hrow none (fun p hp => by cases hp) (.own ⟨e, ye.size⟩ []) (.ownz _ hBn)
              exact ⟨_, _, S, _, .inl (by simp [hrun]), .slz nx, by simpa using hM3, fun _ h => h, hsame, hE⟩
            · have hq : ∀ p : Pl, some (⟨g, ye.size, cap⟩ : Pl) = some p → sv.ownBlock = some p.blk ∨ p.blk = w.heap.size := by
                intro p hp
                cases hp
                rcases hat with h1 | h1
                · exact .inl h1.symm
                · exact .inr (by simpa [Value.ownBlock] using h1)
              obtain ⟨hM3, hE⟩ := hM2.grown hF hgr hrow (some ⟨g, ye.size, cap⟩) hq (.own ⟨e, ye.size⟩ (xs ++ new))
                (.own _ ⟨g, ye.size, cap⟩ cur e (by simp [upd]) hg (RowL.pre (p := ⟨g, ye.size, cap⟩) hLall (by simpa using htake) hcs (by simpa using hnc) hcm))
              refine ⟨.slice (some ⟨g, 0, none⟩) (xs.length + new.length) cap, w', S, _, .inl (by simp [hrun]), ?_, hM3, fun _ h => h, hsame, hE⟩
              simpa using AVR.sl (S := S) (w := w') (B := upd B nx (some ⟨g, ye.size, cap⟩)) nx 0 (xs.length + new.length) ⟨g, ye.size, cap⟩ (by simp [upd]) (Nat.zero_le _) hnc (.inl rfl) hcm
          · cases h
        · cases h
  · cases h

end
end Go.Jv
