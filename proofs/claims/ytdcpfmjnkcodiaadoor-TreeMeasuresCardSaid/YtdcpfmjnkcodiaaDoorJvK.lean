/- What makes memory: variables, literals, append. -/
import Derived.Test.YtdcpfmjnkcodiaaDoorJvJ
namespace Go.Jv

theorem foldl_put (off : Nat) : ∀ (l : List Value) (k : Nat) (cells : Array Value), off + k + l.length ≤ cells.size →
    ((l.zipIdx k).foldl (fun (cs : Array Value) (x : Value × Nat) => cs.setIfInBounds (off + x.2) x.1) cells).toList = putA cells.toList (off + k) l
  | [], k, cells, h => by
    simp only [List.zipIdx_nil, List.foldl_nil, putA, List.length_nil, Nat.add_zero, List.append_nil, List.take_append_drop]
  | v :: l, k, cells, h => by
    simp only [List.zipIdx_cons, List.foldl_cons]
    rw [foldl_put off l (k + 1) _ (by simp at h ⊢; omega)]
    have hs : off + k < cells.toList.length := by simp at h ⊢; omega
    simp only [List.length_cons] at h
    apply List.ext_getElem?
    intro j
    have e1 : (cells.setIfInBounds (off + k) v).toList = cells.toList.set (off + k) v := by simp
    rw [e1, putA_get _ (off + (k + 1)) l (by simp; omega), putA_get _ (off + k) (v :: l) (by simp; omega)]
    by_cases h1 : j < off + k
    · rw [if_pos (by omega), if_pos h1, List.getElem?_set_ne (by omega)]
    · rw [if_neg h1]
      by_cases h2 : j = off + k
      · subst h2
        rw [if_pos (by omega), if_pos (by simp), List.getElem?_set_self hs]
        simp
      · rw [if_neg (by omega)]
        by_cases h3 : j < off + (k + 1) + l.length
        · rw [if_pos h3, if_pos (by simp; omega)]
          have : j - (off + k) = (j - (off + (k + 1))) + 1 := by omega
          rw [this, List.getElem?_cons_succ]
        · rw [if_neg h3, if_neg (by simp; omega), List.getElem?_set_ne (by omega)]

theorem fold_put (off : Nat) (us cells : Array Value) (h : off + us.size ≤ cells.size) :
    (us.zipIdx.foldl (fun cs (x : Value × Nat) => cs.setIfInBounds (off + x.2) x.1) cells) = (putA cells.toList off us.toList).toArray := by
  have := foldl_put off us.toList 0 cells (by simpa using h)
  rw [Nat.add_zero] at this
  apply Array.ext'
  rw [← this, ← Array.foldl_toList, Array.toList_zipIdx]

section
variable {P : Program} {C : Cfg} {S0 L0 : Nat → Prop} {w0 : World} {S : Nat → Prop} {B : Nat → Option Pl} {H : Hs} {F : Nat → Prop} {nx : Nat} {w : World}

/-- parts of a literal against their values -/
def PartsR (S : Nat → Prop) (w : World) (B : Nat → Option Pl) (as : List (Nat × AV)) (vs : List (Nat × Value)) : Prop :=
  as.length = vs.length ∧ ∀ (j : Nat) a v, as[j]? = some a → vs[j]? = some v → a.1 = v.1 ∧ AVR S w B a.2 v.2

theorem PartsR.tail {a : Nat × AV} {v : Nat × Value} {as : List (Nat × AV)} {vs : List (Nat × Value)} (h : PartsR S w B (a :: as) (v :: vs)) : a.1 = v.1 ∧ AVR S w B a.2 v.2 ∧ PartsR S w B as vs :=
  ⟨(h.2 0 a v rfl rfl).1, (h.2 0 a v rfl rfl).2, by simpa using h.1, fun j a' v' ha hv => h.2 (j + 1) a' v' (by simpa using ha) (by simpa using hv)⟩

theorem fillA_sound {placeA place : Nat → Option (Nat × Nat)} (hpl : ∀ i r, placeA i = some r → place i = some r) : ∀ (as : List (Nat × AV)) (vs : List (Nat × Value)) (cs cs' : List AV) (us : Array Value),
    PartsR S w B as vs → CellsA S w B cs us.toList → fillA okCells placeA cs as = some cs' → ∃ us' : Array Value, Instr.fill place us vs = some us' ∧ CellsA S w B cs' us'.toList
  | [], vs, cs, cs', us, hp, hc, h => by
    match vs, hp with
    | [], _ => simp [fillA] at h; subst h; exact ⟨us, rfl, hc⟩
    | _ :: _, hp => exact absurd hp.1 (by simp)
  | (i, a) :: as, vs, cs, cs', us, hp, hc, h => by
    match vs, hp with
    | [], hp => exact absurd hp.1 (by simp)
    | (i', v) :: vs, hp =>
      obtain ⟨e, hv, ht⟩ := hp.tail
      simp only at e hv
      subst e
      simp only [fillA] at h
      split at h
      · rename_i off size new h1 h2
        split at h
        · rename_i hcond
          obtain ⟨hk, rfl⟩ : a.cells.all okC = true ∧ a.cells = new := by
            unfold okCells at h2
            split at h2
            · rename_i hk; cases h2; exact ⟨hk, rfl⟩
            · cases h2
          have hcv := hv.cellsOk hk
          have hl := hc.1
          have hvl := hcv.1
          have hsz : v.cells.size = size := by simp at hvl; omega
          have hfit : off + v.cells.size ≤ us.size := by simp at hl; omega
          obtain ⟨us', h3, h4⟩ := fillA_sound hpl as vs _ cs' (putA us.toList off v.cells.toList).toArray ht (by simpa using hc.put hcv off (by omega)) h
          refine ⟨us', ?_, h4⟩
          simp only [Instr.fill, hpl _ _ h1]
          rw [if_neg (by simp; omega)]
          rw [← h3]
          congr 1
          exact fold_put off v.cells us hfit
        · cases h
      · cases h

theorem ZeroR.cells {y : Ty} {z : Value} (h : ZeroR y z) : CellsA S w B y.zero z.cells.toList := by
  obtain ⟨h1, h2, h3, h4, _⟩ := h
  refine ⟨by simp [h1, h2], fun j c u hj hu => ?_⟩
  have hu' : z.cells[j]? = some u := by simpa using hu
  obtain ⟨u', h5, h6⟩ := h4 j c hj
  rw [hu'] at h5; cases h5
  exact ⟨h3 u (Array.mem_of_getElem? hu'), h6 S w B⟩

theorem mapM_some {α β : Type} {f : α → Option β} : ∀ (l : List α), (∀ x ∈ l, (f x).isSome = true) → ∃ r, l.mapM f = some r ∧ ∀ (i : Nat) x y, l[i]? = some x → f x = some y → r[i]? = some y
  | [], _ => ⟨[], rfl, fun i x y h => by simp at h⟩
  | a :: l, h => by
    obtain ⟨b, hb⟩ := Option.isSome_iff_exists.1 (h a (by simp))
    obtain ⟨r, hr, hg⟩ := mapM_some l (fun x hx => h x (by simp [hx]))
    refine ⟨b :: r, by simp [List.mapM_cons, hb, hr], fun i x y hx hy => ?_⟩
    match i with
    | 0 => simp at hx; subst hx; rw [hb] at hy; simpa using hy
    | i + 1 => simpa using hg i x y (by simpa using hx) hy

theorem buildA_sound (V : Valid P C) {t : TypeId} {as : List (Nat × AV)} {vs : List (Nat × Value)} (hp : PartsR S w B as vs) {r : AV} (h : buildA C t as = some r) :
    ∃ val, (Instr.build t vs.toArray).run P w = .ok val w ∧ AVR S w B r val := by
  unfold buildA at h
  cases hy : C.ty t with
  | none => simp [hy] at h
  | some y =>
    simp only [hy] at h
    obtain ⟨hu, i, z, hi, hsz, _, hz, hzr⟩ := V.ty t y hy
    have mk : ∀ (cs' : List AV) (us' : Array Value), CellsA S w B cs' us'.toList → AVR S w B (.agg cs') (.agg us') := fun cs' us' hc =>
      .agg cs' us' (by simpa using hc.1) (fun u hu => hc.one u (by simpa using hu)) (fun j c u hj hu => (hc.2 j c u hj (by simpa using hu)).2)
    split at h
    · rename_i fs hd
      obtain ⟨cs', h1, rfl⟩ := Option.map_eq_some_iff.1 h
      have hall := V.fields t y hy fs hd
      obtain ⟨places, hpl, hg⟩ := mapM_some (f := fun f : Field => (P.info? f.type).map fun i => (f.offset, i.size)) fs.toList (fun f hf => by simpa using hall f (by simpa using hf))
      obtain ⟨us', h2, h3⟩ := fillA_sound (S := S) (w := w) (B := B) (place := (places.toArray[·]?)) (fun k r hr => by
        split at hr
        · rename_i f hf
          obtain ⟨n, hn, rfl⟩ := Option.map_eq_some_iff.1 hr
          have : (P.info? f.type).map (fun i => (f.offset, i.size)) = some (f.offset, n) := by
            unfold sizeT at hn
            obtain ⟨y', hy', rfl⟩ := Option.map_eq_some_iff.1 hn
            obtain ⟨_, i', _, hi', hs', _⟩ := V.ty _ _ hy'
            simp [hi', hs']
          simpa using hg k f _ (by simpa using hf) this
        · cases hr) as vs y.zero cs' z.cells hp (ZeroR.cells hzr) h1
      refine ⟨.agg us', run_build w t vs.toArray us' ?_, mk _ _ h3⟩
      unfold Program.built
      rw [hi, hu, hd]
      simp only [hz, hpl]
      exact h2
    · rename_i n e hd
      split at h
      · rename_i n' hn'
        obtain ⟨cs', h1, rfl⟩ := Option.map_eq_some_iff.1 h
        unfold sizeT at hn'
        obtain ⟨y', hy', rfl⟩ := Option.map_eq_some_iff.1 hn'
        obtain ⟨_, i', _, hi', hs', _⟩ := V.ty _ _ hy'
        obtain ⟨us', h2, h3⟩ := fillA_sound (S := S) (w := w) (B := B) (place := fun k => some (k * i'.size, i'.size)) (fun k r hr => by rw [hs']; exact hr) as vs y.zero cs' z.cells hp (ZeroR.cells hzr) h1
        refine ⟨.agg us', run_build w t vs.toArray us' ?_, mk _ _ h3⟩
        unfold Program.built
        rw [hi, hu, hd]
        simp only [hz, hi']
        exact h2
      · cases h
    · cases h

/-- elements in a flat list of values -/
def RowL (S : Nat → Prop) (w : World) (sz : Nat) (xs : List Dat) (us : List Value) : Prop :=
  us.length = xs.length * sz ∧ ∀ (i : Nat) x, xs[i]? = some x → x.cells.length = sz ∧ CellsD S w x.cells ((us.drop (i * sz)).take sz)

theorem RowL.rowR {p : Pl} {arr : Array Value} {xs : List Dat} (h : RowL S w p.sz xs arr.toList) (hc : p.cap = xs.length) (hm : p.cap ≤ maxLen) : RowR S w p arr xs := by
  refine ⟨by have := h.1; simp at this; rw [this, hc], by omega, hm, fun i x hx => (h.2 i x hx).1, fun i x j c hx hj => ?_⟩
  obtain ⟨hz, hC⟩ := h.2 i x hx
  have hjl : j < x.cells.length := (List.getElem?_eq_some_iff.1 hj).1
  have hjl' : j < ((arr.toList.drop (i * p.sz)).take p.sz).length := by rw [← hC.1]; exact hjl
  have hu := List.getElem?_eq_getElem hjl'
  have := hC.2 j c _ hj hu
  refine ⟨_, ?_, this.1, this.2⟩
  rw [List.getElem?_take, if_pos (by omega), List.getElem?_drop] at hu
  simp

theorem RowL.mono {S' : Nat → Prop} {w' : World} {sz : Nat} {xs : List Dat} {us : List Value} (h : RowL S w sz xs us) (hS : ∀ b, S b → S' b) (hw : Same S w w') : RowL S' w' sz xs us :=
  ⟨h.1, fun i x hx => ⟨(h.2 i x hx).1, (h.2 i x hx).2.mono hS hw⟩⟩

theorem RowL.set {sz : Nat} {xs : List Dat} {us : List Value} (h : RowL S w sz xs us) {i : Nat} (hi : i < xs.length) {y : Dat} {vs : List Value} (hy : CellsD S w y.cells vs) (hl : y.cells.length = sz) :
    RowL S w sz (xs.set i y) (putA us (i * sz) vs) := by
  have hvl : vs.length = sz := by rw [← hy.1, hl]
  have hle : i * sz + sz ≤ us.length := by rw [h.1, ← Nat.succ_mul]; exact Nat.mul_le_mul_right _ hi
  refine ⟨by rw [putA_length _ _ _ (by omega), h.1, List.length_set], fun k x hx => ?_⟩
  have hk : k < xs.length := by have := (List.getElem?_eq_some_iff.1 hx).1; simpa using this
  by_cases e : i = k
  · subst e
    rw [List.getElem?_set_self hi] at hx
    cases hx
    refine ⟨hl, ?_⟩
    have : ((putA us (i * sz) vs).drop (i * sz)).take sz = vs := by
      apply List.ext_getElem?
      intro j
      rw [List.getElem?_take]
      split
      · rw [List.getElem?_drop, putA_get _ _ _ (by omega), if_neg (by omega), if_pos (by omega)]; congr 1; omega
      · rw [List.getElem?_eq_none (by omega)]
    rw [this]; exact hy
  · rw [List.getElem?_set_ne e] at hx
    refine ⟨(h.2 k x hx).1, ?_⟩
    have : ((putA us (i * sz) vs).drop (k * sz)).take sz = (us.drop (k * sz)).take sz := by
      apply List.ext_getElem?
      intro j
      rw [List.getElem?_take, List.getElem?_take]
      split
      · rename_i hj
        rw [List.getElem?_drop, List.getElem?_drop, putA_get _ _ _ (by omega)]
        rcases Nat.lt_or_gt_of_ne e with hlt | hlt
        · have : (i + 1) * sz ≤ k * sz := Nat.mul_le_mul_right _ hlt
          rw [Nat.succ_mul] at this
          rw [if_neg (by omega), if_neg (by omega)]
        · have : (k + 1) * sz ≤ i * sz := Nat.mul_le_mul_right _ hlt
          rw [Nat.succ_mul] at this
          rw [if_pos (by omega)]
      · rfl
    rw [this]
    exact (h.2 k x hx).2

theorem partsD_sound {sz : Nat} : ∀ (as : List (Nat × AV)) (vs : List (Nat × Value)) {H : Hs} {S : Nat → Prop} {xs xs' : List Dat} {us : Array Value} {H1 : Hs},
    Mem C S0 L0 w0 S B H F w → PartsR S w B as vs → RowL S w sz xs us.toList → partsD sz H xs as = some (xs', H1) →
    ∃ (S1 : Nat → Prop) (us' : Array Value), Instr.fill (fun i => some (i * sz, sz)) us vs = some us' ∧ Mem C S0 L0 w0 S1 B H1 F w ∧ (∀ b, S b → S1 b) ∧ RowL S1 w sz xs' us'.toList ∧ xs'.length = xs.length
  | [], vs, H, S, xs, xs', us, H1, hM, hp, hr, h => by
    match vs, hp with
    | [], _ => simp [partsD] at h; obtain ⟨rfl, rfl⟩ := h; exact ⟨S, us, rfl, hM, fun _ h => h, hr, rfl⟩
    | _ :: _, hp => exact absurd hp.1 (by simp)
  | (i, a) :: as, vs, H, S, xs, xs', us, H1, hM, hp, hr, h => by
    match vs, hp with
    | [], hp => exact absurd hp.1 (by simp)
    | (i', v) :: vs, hp =>
      obtain ⟨e, hv, ht⟩ := hp.tail
      simp only at e hv
      subst e
      simp only [partsD] at h
      split at h
      · rename_i x H2 h2
        split at h
        · rename_i hc
          obtain ⟨S1, hM1, hS1, hx, hL⟩ := frz_sound 4 hM hv h2
          have hcv := hx.cellsOk hc.2.2
          have hvl := hcv.1
          have hr1 := (hr.mono hS1 (fun _ _ => rfl)).set hc.1 hcv hc.2.1
          have hle : i * sz + sz ≤ us.size := by
            have := hr.1
            simp at this
            rw [this, ← Nat.succ_mul]; exact Nat.mul_le_mul_right _ hc.1
          have hvs : v.cells.size = sz := by simp at hvl; omega
          obtain ⟨S2, us', h3, hM2, hS2, hr2, hl2⟩ := partsD_sound as vs (us := (putA us.toList (i * sz) v.cells.toList).toArray) hM1
            ⟨ht.1, fun j a' v' ha hv => ⟨(ht.2 j a' v' ha hv).1, (ht.2 j a' v' ha hv).2.mono hS1 (fun _ _ => rfl) (Ext.refl _)⟩⟩ (by simpa using hr1) h
          refine ⟨S2, us', ?_, hM2, fun b hb => hS2 b (hS1 b hb), hr2, by rw [hl2]; simp⟩
          simp only [Instr.fill]
          rw [if_neg (by simp; omega), ← h3]
          congr 1
          exact fold_put _ v.cells us (by omega)
        · cases h
      · cases h

/-- what an operation comes to -/
def StepR (C : Cfg) (S0 L0 : Nat → Prop) (w0 : World) (S : Nat → Prop) (B : Nat → Option Pl) (F : Nat → Prop) (nx : Nat) (w : World) (r : Result Next) (x : AV) (H1 : Hs) (n1 : Nat) : Prop :=
  ∃ val w1 S1 B1, (r = .ok (.value val) w1 ∨ (r = .ok .skip w1 ∧ val = Go.undef)) ∧ AVR S1 w1 B1 x val ∧ Mem C S0 L0 w0 S1 B1 H1 (took F nx n1) w1 ∧ (∀ b, S b → S1 b) ∧ Same S w w1 ∧ Ext B B1

theorem StepR.value (hM : Mem C S0 L0 w0 S B H F w) {s : Sem Value} {x : AV} {v : Value} (hr : s.run P w = .ok v w) (hv : AVR S w B x v) :
    StepR C S0 L0 w0 S B F nx w ((do pure (.value (← s)) : Sem Next).run P w) x H nx :=
  ⟨v, w, S, B, .inl (by simp [hr]), hv, hM.weak (fun _ h => h.1), fun _ h => h, fun _ _ => rfl, Ext.refl _⟩

theorem alloc_step (hM : Mem C S0 L0 w0 S B H F w) (hF : F nx) {cs : List AV} {v : Value} {e : TypeId} (hc : CellsA S w B cs v.cells.toList) {s : Sem Value}
    (hr : s.run P w = .ok (.pointer (some ⟨w.heap.size, 0, none⟩)) (w.alloc (.cells v.cells e))) :
    StepR C S0 L0 w0 S B F nx w ((do pure (.value (← s)) : Sem Next).run P w) (.pt nx 0) (upd H nx (.box cs)) (nx + 1) := by
  have hE := hM.ext_new hF ⟨w.heap.size, 1, 0⟩
  have hs := same_alloc (w := w) hM.lt (.cells v.cells e)
  refine ⟨_, _, S, upd B nx (some ⟨w.heap.size, 1, 0⟩), .inl (by simp [hr]), .pt nx 0 ⟨w.heap.size, 1, 0⟩ (by simp [upd]), hM.new hF _ _ 1 0 ?_, fun _ h => h, hs, hE⟩
  exact HR.mkBox (p := ⟨w.heap.size, 1, 0⟩) (by simp [upd]) (heap_alloc_new w _) (hc.mono (fun _ h => h) hs hE)

end
end Go.Jv
