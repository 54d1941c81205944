/- What makes memory: variables, literals, append. -/
import Derived.Test.YtkmbagocakiefaaGreatDoorL3
import Derived.Laws.OwnMore
import Derived.Great.BuildSlice
import Derived.Carry
import Derived.Maps.Own
namespace Go.Jv
theorem Dt (off : Nat) : ∀ (l : List Value) (k : Nat) (cells : Array Value), off + k + l.length ≤ cells.size →
  ((l.zipIdx k).foldl (fun (cs : Array Value) (x : Value × Nat) => cs.setIfInBounds (off + x.2) x.1) cells).toList = cC cells.toList (off + k) l
 | [], k, cells, h => by
  simp only [List.zipIdx_nil, List.foldl_nil, cC, List.length_nil, Nat.add_zero, List.append_nil, List.take_append_drop]
 | v :: l, k, cells, h => by
  simp only [List.zipIdx_cons, List.foldl_cons]
  rw [Dt off l (k + 1) _ (by simp at h ⊢; omega)]
  have hs : off + k < cells.toList.length := by simp at h ⊢; omega
  simp only [List.length_cons] at h
  apply List.ext_getElem?
  intro j
  have e1 : (cells.setIfInBounds (off + k) v).toList = cells.toList.set (off + k) v := by simp
  rw [e1, gR _ (off + (k + 1)) l (by simp; omega), gR _ (off + k) (v :: l) (by simp; omega)]
  by_cases h1 : j < off + k
  ·rw [if_pos (by omega), if_pos h1, List.getElem?_set_ne (by omega)]
  ·rw [if_neg h1]
   by_cases h2 : j = off + k
   ·subst h2
    rw [if_pos (by omega), if_pos (by simp), List.getElem?_set_self hs]
    simp
   ·rw [if_neg (by omega)]
    by_cases h3 : j < off + (k + 1) + l.length
    ·rw [if_pos h3, if_pos (by simp; omega)]
     have : j - (off + k) = (j - (off + (k + 1))) + 1 := by omega
     rw [this, List.getElem?_cons_succ]
    ·rw [if_neg h3, if_neg (by simp; omega), List.getElem?_set_ne (by omega)]
theorem F6 (off : Nat) (us cells : Array Value) (h : off + us.size ≤ cells.size) :
  (us.zipIdx.foldl (fun cs (x : Value × Nat) => cs.setIfInBounds (off + x.2) x.1) cells) = (cC cells.toList off us.toList).toArray := by
 have := Dt off us.toList 0 cells (by simpa using h)
 rw [Nat.add_zero] at this
 apply Array.ext'
 rw [← this, ← Array.foldl_toList, Array.toList_zipIdx]
section
variable {P : Program} {C : Cfg} {S0 : Nat → Prop} {L0 : Lz} {w0 : World} {S : Nat → Prop} {B : Nat → Option Pl} {H : Hs} {F : Nat → Prop} {nx : Nat} {w : World}
def pW (S : Nat → Prop) (w : World) (B : Nat → Option Pl) (as : List (Nat × AV)) (vs : List (Nat × Value)) : Prop :=
 as.length = vs.length ∧ ∀ (j : Nat) a v, as[j]? = some a → vs[j]? = some v → a.1 = v.1 ∧ AVR S w B a.2 v.2
theorem pW.tail {a : Nat × AV} {v : Nat × Value} {as : List (Nat × AV)} {vs : List (Nat × Value)} (h : pW S w B (a :: as) (v :: vs)) : a.1 = v.1 ∧ AVR S w B a.2 v.2 ∧ pW S w B as vs :=
 ⟨(h.2 0 a v rfl rfl).1, (h.2 0 a v rfl rfl).2, by simpa using h.1, fun j a' v' ha hv => h.2 (j + 1) a' v' (by simpa using ha) (by simpa using hv)⟩
theorem tZ {placeA place : Nat → Option (Nat × Nat)} (hpl : ∀ i r, placeA i = some r → place i = some r) : ∀ (as : List (Nat × AV)) (vs : List (Nat × Value)) (cs cs' : List AV) (us : Array Value),
  pW S w B as vs → dx S w B cs us.toList → er dD placeA cs as = some cs' → ∃ us' : Array Value, Instr.fill place us vs = some us' ∧ dx S w B cs' us'.toList
 | [], vs, cs, cs', us, hp, hc, h => by
  match vs, hp with
  | [], _ => simp [er] at h; subst h; exact ⟨us, rfl, hc⟩
  | _ :: _, hp => exact absurd hp.1 (by simp)
 | (i, a) :: as, vs, cs, cs', us, hp, hc, h => by
  match vs, hp with
  | [], hp => exact absurd hp.1 (by simp)
  | (i', v) :: vs, hp =>
   obtain ⟨e, hv, ht⟩ := hp.tail
   simp only at e hv
   subst e
   simp only [er] at h
   split at h
   ·rename_i off size new h1 h2
    split at h
    ·rename_i hcond
     obtain ⟨hk, rfl⟩ : a.cells.all okC = true ∧ a.cells = new := by
      unfold dD at h2
      split at h2
      ·rename_i hk; cases h2; exact ⟨hk, rfl⟩
      ·cases h2
     have hcv := hv.cellsOk hk
     have hl := hc.1
     have hvl := hcv.1
     have hsz : v.cells.size = size := by simp at hvl; omega
     have hfit : off + v.cells.size ≤ us.size := by simp at hl; omega
     obtain ⟨us', h3, h4⟩ := tZ hpl as vs _ cs' (cC us.toList off v.cells.toList).toArray ht (by simpa using hc.put hcv off (by omega)) h
     refine ⟨us', ?_, h4⟩
     simp only [Instr.fill, hpl _ _ h1]
     rw [if_neg (by simp; omega)]
     rw [← h3]
     congr 1
     exact F6 off v.cells us hfit
    ·cases h
   ·cases h
theorem te.cells {y : Ty} {z : Value} (h : te y z) : dx S w B y.zero z.cells.toList := by
 obtain ⟨h1, h2, h3, h4, _⟩ := h
 refine ⟨by simp [h1, h2], fun j c u hj hu => ?_⟩
 have hu' : z.cells[j]? = some u := by simpa using hu
 obtain ⟨u', h5, h6⟩ := h4 j c hj
 rw [hu'] at h5; cases h5
 exact ⟨h3 u (Array.mem_of_getElem? hu'), h6 S w B⟩
theorem Du {α β : Type} {f : α → Option β} : ∀ (l : List α), (∀ x ∈ l, (f x).isSome = true) → ∃ r, l.mapM f = some r ∧ ∀ (i : Nat) x y, l[i]? = some x → f x = some y → r[i]? = some y
 | [], _ => ⟨[], rfl, fun i x y h => by simp at h⟩
 | a :: l, h => by
  obtain ⟨b, hb⟩ := Option.isSome_iff_exists.1 (h a (by simp))
  obtain ⟨r, hr, hg⟩ := Du l (fun x hx => h x (by simp [hx]))
  refine ⟨b :: r, by simp [List.mapM_cons, hb, hr], fun i x y hx hy => ?_⟩
  match i with
  | 0 => simp at hx; subst hx; rw [hb] at hy; simpa using hy
  | i + 1 => simpa using hg i x y (by simpa using hx) hy
theorem F7 (V : ca P C) {t : TypeId} {as : List (Nat × AV)} {vs : List (Nat × Value)} (hp : pW S w B as vs) {r : AV} (h : rX C t as = some r) :
  ∃ val, (Instr.build t vs.toArray).run P w = .ok val w ∧ AVR S w B r val := by
 unfold rX at h
 cases hy : C.ty t with
 | none => simp [hy] at h
 | some y =>
  simp only [hy] at h
  obtain ⟨hu, i, z, hi, hsz, _, hz, hzr⟩ := V.ty t y hy
  have mk : ∀ (cs' : List AV) (us' : Array Value), dx S w B cs' us'.toList → AVR S w B (.agg cs') (.agg us') := fun cs' us' hc =>
   .agg cs' us' (by simpa using hc.1) (fun u hu => hc.one u (by simpa using hu)) (fun j c u hj hu => (hc.2 j c u hj (by simpa using hu)).2)
  split at h
  ·rename_i fs hd
   obtain ⟨cs', h1, rfl⟩ := Option.map_eq_some_iff.1 h
   have hall := V.fields t y hy fs hd
   obtain ⟨dc, hpl, hg⟩ := Du (f := fun f : Field => (P.info? f.type).map fun i => (f.offset, i.size)) fs.toList (fun f hf => by simpa using hall f (by simpa using hf))
   obtain ⟨us', h2, h3⟩ := tZ (S := S) (w := w) (B := B) (place := (dc.toArray[·]?)) (fun k r hr => by
    split at hr
    ·rename_i f hf
     obtain ⟨n, hn, rfl⟩ := Option.map_eq_some_iff.1 hr
     have : (P.info? f.type).map (fun i => (f.offset, i.size)) = some (f.offset, n) := by
      unfold bP at hn
      obtain ⟨y', hy', rfl⟩ := Option.map_eq_some_iff.1 hn
      obtain ⟨_, i', _, hi', hs', _⟩ := V.ty _ _ hy'
      simp [hi', hs']
     simpa using hg k f _ (by simpa using hf) this
    ·cases hr) as vs y.zero cs' z.cells hp (te.cells hzr) h1
   refine ⟨.agg us', run_build w t vs.toArray us' ?_, mk _ _ h3⟩
   unfold Program.built
   rw [hi, hu, hd]
   simp only [hz, hpl]
   exact h2
  ·rename_i n e hd
   split at h
   ·rename_i n' hn'
    obtain ⟨cs', h1, rfl⟩ := Option.map_eq_some_iff.1 h
    unfold bP at hn'
    obtain ⟨y', hy', rfl⟩ := Option.map_eq_some_iff.1 hn'
    obtain ⟨_, i', _, hi', hs', _⟩ := V.ty _ _ hy'
    obtain ⟨us', h2, h3⟩ := tZ (S := S) (w := w) (B := B) (place := fun k => some (k * i'.size, i'.size)) (fun k r hr => by rw [hs']; exact hr) as vs y.zero cs' z.cells hp (te.cells hzr) h1
    refine ⟨.agg us', run_build w t vs.toArray us' ?_, mk _ _ h3⟩
    unfold Program.built
    rw [hi, hu, hd]
    simp only [hz, hi']
    exact h2
   ·cases h
  ·cases h
def eG (S : Nat → Prop) (w : World) (sz : Nat) (xs : List Dat) (us : List Value) : Prop :=
 us.length = xs.length * sz ∧ ∀ (i : Nat) x, xs[i]? = some x → x.cells.length = sz ∧ bf S w x.cells ((us.drop (i * sz)).take sz)
theorem eG.rowR {p : Pl} {arr : Array Value} {xs : List Dat} (h : eG S w p.sz xs arr.toList) (hc : p.cap = xs.length) (hm : p.cap ≤ maxLen) : kB S w p arr xs := by
 refine ⟨by have := h.1; simp at this; rw [this, hc], by omega, hm, fun i x hx => (h.2 i x hx).1, fun i x j c hx hj => ?_⟩
 obtain ⟨hz, hC⟩ := h.2 i x hx
 have hjl : j < x.cells.length := (List.getElem?_eq_some_iff.1 hj).1
 have hjl' : j < ((arr.toList.drop (i * p.sz)).take p.sz).length := by rw [← hC.1]; exact hjl
 have hu := List.getElem?_eq_getElem hjl'
 have := hC.2 j c _ hj hu
 refine ⟨_, ?_, this.1, this.2⟩
 rw [List.getElem?_take, if_pos (by omega), List.getElem?_drop] at hu
 simp
theorem eG.mono {S' : Nat → Prop} {w' : World} {sz : Nat} {xs : List Dat} {us : List Value} (h : eG S w sz xs us) (hS : ∀ b, S b → S' b) (hw : gn S w w') : eG S' w' sz xs us :=
 ⟨h.1, fun i x hx => ⟨(h.2 i x hx).1, (h.2 i x hx).2.mono hS hw⟩⟩
theorem eG.set {sz : Nat} {xs : List Dat} {us : List Value} (h : eG S w sz xs us) {i : Nat} (hi : i < xs.length) {y : Dat} {vs : List Value} (hy : bf S w y.cells vs) (hl : y.cells.length = sz) :
  eG S w sz (xs.set i y) (cC us (i * sz) vs) := by
 have hvl : vs.length = sz := by rw [← hy.1, hl]
 have hle : i * sz + sz ≤ us.length := by rw [h.1, ← Nat.succ_mul]; exact Nat.mul_le_mul_right _ hi
 refine ⟨by rw [hY _ _ _ (by omega), h.1, List.length_set], fun k x hx => ?_⟩
 have hk : k < xs.length := by have := (List.getElem?_eq_some_iff.1 hx).1; simpa using this
 by_cases e : i = k
 ·subst e
  rw [List.getElem?_set_self hi] at hx
  cases hx
  refine ⟨hl, ?_⟩
  have : ((cC us (i * sz) vs).drop (i * sz)).take sz = vs := by
   apply List.ext_getElem?
   intro j
   rw [List.getElem?_take]
   split
   ·rw [List.getElem?_drop, gR _ _ _ (by omega), if_neg (by omega), if_pos (by omega)]; congr 1; omega
   ·rw [List.getElem?_eq_none (by omega)]
  rw [this]; exact hy
 ·rw [List.getElem?_set_ne e] at hx
  refine ⟨(h.2 k x hx).1, ?_⟩
  have : ((cC us (i * sz) vs).drop (k * sz)).take sz = (us.drop (k * sz)).take sz := by
   apply List.ext_getElem?
   intro j
   rw [List.getElem?_take, List.getElem?_take]
   split
   ·rename_i hj
    rw [List.getElem?_drop, List.getElem?_drop, gR _ _ _ (by omega)]
    rcases Nat.lt_or_gt_of_ne e with hlt | hlt
    ·have : (i + 1) * sz ≤ k * sz := Nat.mul_le_mul_right _ hlt
     rw [Nat.succ_mul] at this
     rw [if_neg (by omega), if_neg (by omega)]
    ·have : (k + 1) * sz ≤ i * sz := Nat.mul_le_mul_right _ hlt
     rw [Nat.succ_mul] at this
     rw [if_pos (by omega)]
   ·rfl
  rw [this]
  exact (h.2 k x hx).2
theorem xK {sz : Nat} : ∀ (as : List (Nat × AV)) (vs : List (Nat × Value)) {H : Hs} {S : Nat → Prop} {xs xs' : List Dat} {us : Array Value} {H1 : Hs},
  Mem C S0 L0 w0 S B H F w → pW S w B as vs → eG S w sz xs us.toList → dy sz H xs as = some (xs', H1) →
  ∃ (S1 : Nat → Prop) (us' : Array Value), Instr.fill (fun i => some (i * sz, sz)) us vs = some us' ∧ Mem C S0 L0 w0 S1 B H1 F w ∧ (∀ b, S b → S1 b) ∧ eG S1 w sz xs' us'.toList ∧ xs'.length = xs.length
 | [], vs, H, S, xs, xs', us, H1, hM, hp, hr, h => by
  match vs, hp with
  | [], _ => simp [dy] at h; obtain ⟨rfl, rfl⟩ := h; exact ⟨S, us, rfl, hM, fun _ h => h, hr, rfl⟩
  | _ :: _, hp => exact absurd hp.1 (by simp)
 | (i, a) :: as, vs, H, S, xs, xs', us, H1, hM, hp, hr, h => by
  match vs, hp with
  | [], hp => exact absurd hp.1 (by simp)
  | (i', v) :: vs, hp =>
   obtain ⟨e, hv, ht⟩ := hp.tail
   simp only at e hv
   subst e
   simp only [dy] at h
   split at h
   ·rename_i x H2 h2
    split at h
    ·rename_i hc
     obtain ⟨S1, hM1, hS1, hx, hL⟩ := tc 4 hM hv h2
     have hcv := hx.cellsOk hc.2.2
     have hvl := hcv.1
     have hr1 := (hr.mono hS1 (fun _ _ => rfl)).set hc.1 hcv hc.2.1
     have hle : i * sz + sz ≤ us.size := by
      have := hr.1
      simp at this
      rw [this, ← Nat.succ_mul]; exact Nat.mul_le_mul_right _ hc.1
     have hvs : v.cells.size = sz := by simp at hvl; omega
     obtain ⟨S2, us', h3, hM2, hS2, hr2, hl2⟩ := xK as vs (us := (cC us.toList (i * sz) v.cells.toList).toArray) hM1
      ⟨ht.1, fun j a' v' ha hv => ⟨(ht.2 j a' v' ha hv).1, (ht.2 j a' v' ha hv).2.mono hS1 (fun _ _ => rfl) (Ext.refl _)⟩⟩ (by simpa using hr1) h
     refine ⟨S2, us', ?_, hM2, fun b hb => hS2 b (hS1 b hb), hr2, by rw [hl2]; simp⟩
     simp only [Instr.fill]
     rw [if_neg (by simp; omega), ← h3]
     congr 1
     exact F6 _ v.cells us (by omega)
    ·cases h
   ·cases h
def mw (C : Cfg) (S0 : Nat → Prop) (L0 : Lz) (w0 : World) (S : Nat → Prop) (B : Nat → Option Pl) (F : Nat → Prop) (nx : Nat) (w : World) (r : Result Next) (x : AV) (H1 : Hs) (n1 : Nat) : Prop :=
 ∃ val w1 S1 B1, (r = .ok (.value val) w1 ∨ (r = .ok .skip w1 ∧ val = Go.undef)) ∧ AVR S1 w1 B1 x val ∧ Mem C S0 L0 w0 S1 B1 H1 (AF F nx n1) w1 ∧ (∀ b, S b → S1 b) ∧ gn S w w1 ∧ Ext B B1
theorem mw.value (hM : Mem C S0 L0 w0 S B H F w) {s : Sem Value} {x : AV} {v : Value} (hr : s.run P w = .ok v w) (hv : AVR S w B x v) :
  mw C S0 L0 w0 S B F nx w ((do pure (.value (← s)) : Sem Next).run P w) x H nx :=
 ⟨v, w, S, B, .inl (by simp [hr]), hv, hM.weak (fun _ h => h.1), fun _ h => h, fun _ _ => rfl, Ext.refl _⟩
theorem BK (hM : Mem C S0 L0 w0 S B H F w) (hF : F nx) {cs : List AV} {v : Value} {e : TypeId} (hc : dx S w B cs v.cells.toList) {s : Sem Value}
  (hr : s.run P w = .ok (.pointer (some ⟨w.heap.size, 0, none⟩)) (w.alloc (.cells v.cells e))) :
  mw C S0 L0 w0 S B F nx w ((do pure (.value (← s)) : Sem Next).run P w) (.pt nx 0) (upd H nx (.box cs)) (nx + 1) := by
 have hE := hM.ext_new hF ⟨w.heap.size, 1, 0⟩
 have hs := jN (w := w) hM.lt (.cells v.cells e)
 refine ⟨_, _, S, upd B nx (some ⟨w.heap.size, 1, 0⟩), .inl (by simp [hr]), .pt nx 0 ⟨w.heap.size, 1, 0⟩ (by simp [upd]), hM.new hF _ _ 1 0 ?_, fun _ h => h, hs, hE⟩
 exact HR.mkBox (p := ⟨w.heap.size, 1, 0⟩) (by simp [upd]) (heap_alloc_new w _) (hc.mono (fun _ h => h) hs hE)
end
end Go.Jv
namespace Go.Jv
section
variable {P : Program} {C : Cfg} {S0 : Nat → Prop} {L0 : Lz} {w0 : World} {S : Nat → Prop} {B : Nat → Option Pl} {H : Hs} {F : Nat → Prop} {nx : Nat} {w : World}
theorem E6 (z : Array Value) (n : Nat) (hz : 0 < z.size) (k : Nat) (hk : k < n * z.size) : ((Array.range (n * z.size)).map (z[· % z.size]!)).toList[k]? = z[k % z.size]? := by
 have : k % z.size < z.size := Nat.mod_lt _ hz
 simp [hk, this]
theorem Aj (V : ca P C) {e : TypeId} {z : Dat} {y : Ty} (hy : C.ty e = some y) (h : cw C e = some z) (hk : (z.cells.map AV.d).all okC = true) :
  ∃ i v, P.info? e = some i ∧ i.zero = some v ∧ i.size = y.size ∧ i.bytes = y.bytes ∧ bf S w z.cells v.cells.toList := by
 unfold cw at h
 simp only [hy] at h
 obtain ⟨_, i, v, hi, hsz, hby, hz, hzr⟩ := V.ty e y hy
 refine ⟨i, v, hi, hz, hsz, hby, ?_⟩
 split at h
 ·rename_i cs hcs
  have hc := te.cells (S := S) (w := w) (B := fun _ => none) hzr
  have hA : AVR S w (fun _ => none) (.agg y.zero) (.agg v.cells) := .agg _ _ (by simpa using hc.1) (fun u hu => hc.one u (by simpa using hu)) (fun j c u hj hu => (hc.2 j c u hj (by simpa using hu)).2)
  have hV : VR S w (.agg cs) (.agg v.cells) := jT hA (by simp only [dN, hcs]; rfl)
  cases hV with
  | agg _ _ hl ho hv =>
   have hCD : bf S w cs v.cells.toList := ⟨by simpa using hl, fun j c u hj hu => ⟨ho u (Array.mem_of_getElem? (by simpa using hu)), hv j c u hj (by simpa using hu)⟩⟩
   unfold mkD at h
   split at h
   ·cases h; exact hCD
   ·split at h
    ·rename_i c
     cases h
     cases z with
     | agg cs' =>
      have hl1 : v.cells.toList.length = 1 := hCD.1.symm
      have hu := List.getElem?_eq_getElem (l := v.cells.toList) (i := 0) (by omega)
      obtain ⟨h1, h2⟩ := hCD.2 0 _ _ rfl hu
      cases h2' : v.cells.toList[0]'(by omega) with
      | agg => rw [h2'] at h1; simp [Value.oneCell'] at h1
      | _ => rw [h2'] at h2; cases h2
     | _ => exact hCD
    ·cases h
 ·cases h
theorem eG.zeros {n : Nat} {z : Dat} {v : Array Value} (hz : bf S w z.cells v.toList) (hp : 0 < v.size) : eG S w v.size (List.replicate n z) ((Array.range (n * v.size)).map (v[· % v.size]!)).toList := by
 have hl := hz.1
 simp only [Array.length_toList] at hl
 refine ⟨by simp, fun i x hx => ?_⟩
 rw [List.getElem?_replicate] at hx
 split at hx
 ·rename_i hi
  cases hx
  refine ⟨hl, ?_⟩
  have : ((((Array.range (n * v.size)).map (v[· % v.size]!)).toList.drop (i * v.size)).take v.size) = v.toList := by
   apply List.ext_getElem?
   intro j
   rw [List.getElem?_take]
   split
   ·rename_i hj
    have hle : (i + 1) * v.size ≤ n * v.size := Nat.mul_le_mul_right _ hi
    rw [Nat.succ_mul] at hle
    rw [List.getElem?_drop, E6 v n hp _ (by omega)]
    have : (i * v.size + j) % v.size = j := by rw [Nat.mul_comm, Nat.mul_add_mod, Nat.mod_eq_of_lt hj]
    rw [this]; simp
   ·rw [List.getElem?_eq_none (by simpa using (by omega : v.size ≤ j))]
  rw [this]; exact hz
 ·cases hx
theorem Cg (V : ca P C) (hM : Mem C S0 L0 w0 S B H F w) (hF : F nx) {t el : TypeId} (ht : cd C t = some el) {z : Dat} {ye : Ty} (hz : cw C el = some z) (hye : C.ty el = some ye) {len : Nat}
  (hc : z.cells.length = ye.size ∧ (z.cells.map AV.d).all okC = true ∧ 0 < ye.size ∧ len * ye.size ≤ 16777216) {as : List (Nat × AV)} {vs : List (Nat × Value)} (hp : pW S w B as vs) {xs : List Dat} {H1 : Hs}
  (h : dy ye.size H (List.replicate len z) as = some (xs, H1)) :
  mw C S0 L0 w0 S B F nx w ((do pure (.value (← Instr.buildSlice t len vs.toArray)) : Sem Next).run P w) (.sl nx 0 len) (upd H1 nx (.own ⟨el, ye.size⟩ xs)) (nx + 1) := by
 obtain ⟨hzl, hzk, hpos, hsm⟩ := hc
 obtain ⟨i, v, hi, hv, hsz, hby, hCD⟩ := Aj (S := S) (w := w) V hye hz hzk
 have hvs : v.cells.size = ye.size := by have := hCD.1; simp at this; omega
 have hlen : len ≤ maxLen := by
  have : len * 1 ≤ len * ye.size := Nat.mul_le_mul_left _ hpos
  simp only [maxLen]; omega
 have hR0 := eG.zeros (n := len) hCD (by omega)
 rw [hvs] at hR0
 obtain ⟨S1, us', hf, hM1, hS1, hR, hxl⟩ := xK as vs hM hp hR0 h
 simp only [List.length_replicate] at hxl
 have hun : P.underlying t = some (.slice el) := by
  unfold cd at ht
  split at ht
  ·rename_i y hy
   split at ht
   ·rename_i e' hd
    cases ht
    exact (V.ty t y hy).1.trans (by rw [hd])
   ·cases ht
  ·cases ht
 have hrun : (Instr.buildSlice t len vs.toArray).run P w = .ok (.slice (some ⟨w.heap.size, 0, none⟩) len len) (w.alloc (.cells us' el)) := by
  by_cases h0 : len * ye.size = 0
  ·have hemp : ∀ f : Nat → Value, (Array.range 0).map f = #[] := fun f => Array.eq_empty_of_size_eq_zero (by simp)
   rw [h0, hemp] at hf
   simp [Instr.buildSlice, run_underlying hun, sizeOf, typeInfo, hi, hsz, h0, hemp, hf, newRow]
  ·exact run_buildSlice w t el len vs.toArray us' i v hun hi hv (by rw [hsz]; omega) (by rw [hsz]; omega) (by rw [hsz, hvs]; exact hf)
 refine ⟨.slice (some ⟨w.heap.size, 0, none⟩) len len, w.alloc (.cells us' el), S1, upd B nx (some ⟨w.heap.size, ye.size, len⟩), .inl (by simp [hrun]), ?_, hM1.new hF _ _ ye.size len ?_, hS1, jN hM.lt _, hM.ext_new hF _⟩
 ·simpa using AVR.sl (S := S1) (w := w.alloc (.cells us' el)) (B := upd B nx (some ⟨w.heap.size, ye.size, len⟩)) nx 0 len ⟨w.heap.size, ye.size, len⟩ (by simp [upd]) (Nat.zero_le _) (Nat.le_refl _) (.inl rfl) hlen
 ·have hs := jN (w := w) hM1.lt (.cells us' el)
  exact .own xs ⟨w.heap.size, ye.size, len⟩ us' el (by simp [upd]) (heap_alloc_new w _) ((hR.mono (fun _ h => h) hs).rowR (p := ⟨w.heap.size, ye.size, len⟩) hxl.symm hlen)
theorem D6 (V : ca P C) (hM : Mem C S0 L0 w0 S B H F w) (hF : F nx) {t : TypeId} {l c : AV} {lv cv : Value} (hl : AVR S w B l lv) (hcv : AVR S w B c cv) {r : Row × List Dat} (h : Hu C t l c = some r) :
  mw C S0 L0 w0 S B F nx w ((do pure (.value (← Instr.makeSlice t lv cv)) : Sem Next).run P w) (.sl nx 0 r.2.length) (upd H nx (.own r.1 r.2)) (nx + 1) := by
 unfold Hu at h
 split at h
 ·rename_i el n m ht hn hm
  split at h
  ·rename_i z ye hz hye
   split at h
   ·rename_i hc
    cases h
    obtain ⟨rfl, hzl, hzk, hpos, hby0, hsm⟩ := hc
    obtain ⟨i, v, hi, hv, hsz, hby, hCD⟩ := Aj (S := S) (w := w) V hye hz hzk
    have hvs : v.cells.size = ye.size := by have := hCD.1; simp at this; omega
    have hn1 : n * 1 ≤ n * ye.bytes := Nat.mul_le_mul_left _ hby0
    have hlen : n ≤ maxLen := by simp only [maxLen]; omega
    have hR0 := eG.zeros (n := n) hCD (by omega)
    rw [hvs] at hR0
    have hlv := mj hl hn
    have hcv' := mj hcv hm
    subst hlv hcv'
    have hun : P.underlying t = some (.slice el) := by
     unfold cd at ht
     split at ht
     ·rename_i y hy
      split at ht
      ·rename_i e' hd
       cases ht
       exact (V.ty t y hy).1.trans (by rw [hd])
      ·cases ht
     ·cases ht
    have hw : IntKind.i64.wrap (n : Int) = n := by rw [IntKind.wrap_i64]; omega
    have hmul : i.bytes * (n : Int) ≤ 2 ^ 48 := by
     have : ((i.bytes * n : Nat) : Int) ≤ 140737488355328 := by rw [hby, Nat.mul_comm]; omega
     push_cast at this
     omega
    have hrun : (Instr.makeSlice t (.int .i64 n) (.int .i64 n)).run P w = .ok (.slice (some ⟨w.heap.size, 0, none⟩) n n) (w.alloc (.cells ((Array.range (n * ye.size)).map (v.cells[· % ye.size]!)) el)) := by
     have h1 : ¬ ((n : Int) < 0) := by omega
     have h2 : ¬ (2 ^ 48 < i.bytes * (n : Int)) := by omega
     by_cases h0 : n = 0
     ·subst h0
      have hw0 : IntKind.i64.wrap 0 = 0 := by rw [IntKind.wrap_i64]; rfl
      simp [Instr.makeSlice, run_underlying hun, asInt, asIntOf, typeInfo, hi, hw0, sizeOf, hsz, newRow]
      have hemp : ∀ f : Nat → Value, (Array.range 0).map f = #[] := fun f => Array.eq_empty_of_size_eq_zero (by simp)
      rw [hemp, hemp]
     ·have h3 : n * ye.size ≠ 0 := by
       have : n * 1 ≤ n * ye.size := Nat.mul_le_mul_left _ hpos
       omega
      simp [Instr.makeSlice, run_underlying hun, asInt, asIntOf, typeInfo, hi, hw, h1, h2, sizeOf, hsz, h3, zeroValue, hv, hvs, newRow]
      intro hbig
      exact absurd hbig (Int.not_lt.2 (by simpa using hmul))
    refine ⟨.slice (some ⟨w.heap.size, 0, none⟩) n n, w.alloc (.cells ((Array.range (n * ye.size)).map (v.cells[· % ye.size]!)) el), S, upd B nx (some ⟨w.heap.size, ye.size, n⟩), .inl (by simp [hrun]), ?_, hM.new hF _ _ ye.size n ?_, fun _ h => h, jN hM.lt _, hM.ext_new hF _⟩
    ·simpa using AVR.sl (S := S) (w := w.alloc (.cells ((Array.range (n * ye.size)).map (v.cells[· % ye.size]!)) el)) (B := upd B nx (some ⟨w.heap.size, ye.size, n⟩)) nx 0 n ⟨w.heap.size, ye.size, n⟩ (by simp [upd]) (Nat.zero_le _) (Nat.le_refl _) (.inl rfl) hlen
    ·have hs := jN (w := w) hM.lt (.cells ((Array.range (n * ye.size)).map (v.cells[· % ye.size]!)) el)
     exact .own _ ⟨w.heap.size, ye.size, n⟩ _ el (by simp [upd]) (heap_alloc_new w _) ((hR0.mono (fun _ h => h) hs).rowR (p := ⟨w.heap.size, ye.size, n⟩) (by simp) hlen)
   ·cases h
  ·cases h
 ·cases h
end
end Go.Jv
namespace Go.Jv
section
variable {P : Program} {C : Cfg} {S0 : Nat → Prop} {L0 : Lz} {w0 : World} {S : Nat → Prop} {B : Nat → Option Pl} {H : Hs} {F : Nat → Prop} {nx : Nat} {w : World}
theorem Cl {row : Option Nat} {w' : World} (hg : w.grownBy w' row) (hlt : ∀ b, S b → b < w.heap.size) (hrow : ∀ b, row = some b → ¬ S b) : gn S w w' :=
 fun b hb => hg.block b (hlt b hb) (fun e => hrow b e.symm hb)
theorem Mem.grown (hM : Mem C S0 L0 w0 S B H F w) (hF : F nx) {row : Option Nat} {w' : World} (hg : w.grownBy w' row)
  (hrow : ∀ b, row = some b → ¬ S b ∧ (L0 b ∨ w0.heap.size ≤ b) ∧ ∀ id p, (H id).live = true → B id = some p → p.blk ≠ b) (q : Option Pl)
  (hq : ∀ p, q = some p → row = some p.blk ∨ p.blk = w.heap.size) (h : dq) (hh : HR S w' (upd B nx q) nx h) :
  Mem C S0 L0 w0 S (upd B nx q) (upd H nx h) (AF F nx (nx + 1)) w' ∧ Ext B (upd B nx q) := by
 have hE : Ext B (upd B nx q) := fun id p hp => by
  have : id ≠ nx := fun e => by subst e; rw [hM.freshB _ hF] at hp; cases hp
  simp [upd, this, hp]
 have hs := Cl hg hM.lt (fun b hb => (hrow b hb).1)
 have hold : ∀ id, id ≠ nx → ∀ p, (H id).live = true → upd B nx q id = some p → B id = some p ∧ p.blk < w.heap.size := by
  intro id hne p hl hp
  simp only [upd, hne, if_false] at hp
  exact ⟨hp, (hM.homes id).lt hl p hp⟩
 have hnew : ∀ p, upd B nx q nx = some p → row = some p.blk ∨ p.blk = w.heap.size := fun p hp => hq p (by simpa [upd] using hp)
 have hapart : ∀ id, id ≠ nx → ∀ p p', (H id).live = true → upd B nx q id = some p → upd B nx q nx = some p' → p.blk ≠ p'.blk := by
  intro id hne p p' hl hp hp'
  obtain ⟨h1, h2⟩ := hold id hne p hl hp
  rcases hnew p' hp' with h3 | h3
  ·exact (hrow _ h3).2.2 id p hl h1
  ·omega
 refine ⟨⟨?_, ?_, ?_, ?_, ?_, ?_, ?_, hg.os.trans hM.os, hg.tape.trans hM.tape, hg.output.trans hM.output, Nat.le_trans hM.size hg.size, ?_, hM.sub, ?_, hM.sIn, ?_, fun id hid => hM.b0F id hid.1⟩, hE⟩
 ·intro id
  by_cases e : id = nx
  ·subst e; simpa [upd] using hh
  ·simp only [upd, e, if_false]
   exact (hM.homes id).mono (fun _ hb => hb) hs hE (fun _ hn => by simp [upd, e, hn])
    (fun hl p hp => hg.block _ ((hM.homes id).lt hl p hp) (fun e' => (hrow _ e'.symm).2.2 id p hl hp rfl))
 ·intro id hid
  have : id ≠ nx := by have := hid.2; omega
  simp [upd, this, hM.fresh id hid.1]
 ·intro id hid
  have : id ≠ nx := by have := hid.2; omega
  simp [upd, this, hM.freshB id hid.1]
 ·intro id id' p p' hl hl' hp hp' hne
  by_cases e : id = nx
  ·subst e
   have e' : id' ≠ id := fun h => hne h.symm
   simp only [upd, e', if_false] at hl'
   exact (hapart id' e' p' p hl' hp' hp).symm
  ·simp only [upd, e, if_false] at hl
   by_cases e' : id' = nx
   ·subst e'
    exact hapart id e p p' hl hp hp'
   ·simp only [upd, e', if_false] at hl'
    exact hM.inj id id' p p' hl hl' (hold id e p hl hp).1 (hold id' e' p' hl' hp').1 hne
 ·intro id p hl hp hS
  by_cases e : id = nx
  ·subst e
   rcases hnew p hp with h3 | h3
   ·exact (hrow _ h3).1 hS
   ·have := hM.lt _ hS; omega
  ·simp only [upd, e, if_false] at hl
   exact hM.off id p hl (hold id e p hl hp).1 hS
 ·intro b hb
  have := hM.lt b hb
  have := hg.size; omega
 ·intro g cs hc
  exact (hM.glob g cs hc).mono (fun _ h => h) hs
 ·intro b hb hl
  rw [hg.block b (by have := hM.size; omega) (fun e => by
   rcases (hrow b e.symm).2.1 with h1 | h1
   ·exact hl h1
   ·omega)]
  exact hM.keep b hb hl
 ·intro id p hl hp
  by_cases e : id = nx
  ·subst e
   rcases hnew p hp with h3 | h3
   ·exact (hrow _ h3).2.1
   ·exact .inr (by have := hM.size; omega)
  ·simp only [upd, e, if_false] at hl
   exact hM.liveIn id p hl (hold id e p hl hp).1
 ·intro id q' hq'
  have : id ≠ nx := fun e => by rw [e, hM.b0F _ hF] at hq'; cases hq'
  simp only [upd, this, if_false]
  exact hM.b0 id q' hq'
theorem eG.app {sz : Nat} {xs ys : List Dat} {us vs : List Value} (h : eG S w sz xs us) (k : eG S w sz ys vs) : eG S w sz (xs ++ ys) (us ++ vs) := by
 refine ⟨by simp [h.1, k.1, Nat.add_mul], fun i x hx => ?_⟩
 by_cases hi : i < xs.length
 ·rw [List.getElem?_append_left hi] at hx
  have hle : (i + 1) * sz ≤ xs.length * sz := Nat.mul_le_mul_right _ hi
  rw [Nat.succ_mul] at hle
  obtain ⟨h1, h2⟩ := h.2 i x hx
  refine ⟨h1, ?_⟩
  have : ((us ++ vs).drop (i * sz)).take sz = (us.drop (i * sz)).take sz := by
   rw [List.drop_append_of_le_length (by rw [h.1]; omega), List.take_append_of_le_length (by simp [h.1]; omega)]
  rw [this]; exact h2
 ·rw [List.getElem?_append_right (by omega)] at hx
  obtain ⟨h1, h2⟩ := k.2 (i - xs.length) x hx
  refine ⟨h1, ?_⟩
  have : ((us ++ vs).drop (i * sz)).take sz = (vs.drop ((i - xs.length) * sz)).take sz := by
   have e : i * sz = us.length + (i - xs.length) * sz := by rw [h.1, ← Nat.add_mul]; congr 1; omega
   rw [e, List.drop_append, List.drop_eq_nil_of_le (by omega)]
   simp
  rw [this]; exact h2
theorem eG.nil (sz : Nat) : eG S w sz [] [] := ⟨by simp, fun i x h => by simp at h⟩
theorem kB.rowL {p : Pl} {arr : Array Value} {xs : List Dat} (h : kB S w p arr xs) (lo hi : Nat) (h1 : lo ≤ hi) (h2 : hi ≤ xs.length) : eG S w p.sz (win xs lo hi) ((arr.toList.drop (lo * p.sz)).take ((hi - lo) * p.sz)) := by
 have hwl := rf h1 h2
 have hcap := h.2.1
 have hle : hi * p.sz ≤ p.cap * p.sz := Nat.mul_le_mul_right _ (by omega)
 have hsub : (hi - lo) * p.sz = hi * p.sz - lo * p.sz := Nat.sub_mul ..
 refine ⟨?_, fun i x hx => ?_⟩
 ·rw [hwl, List.length_take, List.length_drop, Array.length_toList, h.1]
  omega
 ·obtain ⟨hx', hi'⟩ := nv hx
  obtain ⟨he, hz, _⟩ := h.elem hx'
  refine ⟨hz, ?_⟩
  have hle2 : (i + 1) * p.sz ≤ (hi - lo) * p.sz := Nat.mul_le_mul_right _ hi'
  rw [Nat.succ_mul] at hle2
  rw [ut _ _ _ _ _ (by omega), ← Nat.add_mul]
  exact he
theorem eG.pre {p : Pl} {arr : Array Value} {xs : List Dat} {us : List Value} (h : eG S w p.sz xs us) (hu : arr.toList.take (xs.length * p.sz) = us) (hs : arr.size = p.cap * p.sz) (hc : xs.length ≤ p.cap) (hm : p.cap ≤ maxLen) : kB S w p arr xs := by
 refine ⟨hs, hc, hm, fun i x hx => (h.2 i x hx).1, fun i x j c hx hj => ?_⟩
 obtain ⟨hz, hC⟩ := h.2 i x hx
 have hjl : j < x.cells.length := (List.getElem?_eq_some_iff.1 hj).1
 have hil : i < xs.length := (List.getElem?_eq_some_iff.1 hx).1
 have hle2 : (i + 1) * p.sz ≤ xs.length * p.sz := Nat.mul_le_mul_right _ hil
 rw [Nat.succ_mul] at hle2
 have hjl' : j < ((us.drop (i * p.sz)).take p.sz).length := by rw [← hC.1]; exact hjl
 obtain ⟨u, hv⟩ : ∃ u, ((us.drop (i * p.sz)).take p.sz)[j]? = some u := ⟨_, List.getElem?_eq_getElem hjl'⟩
 have := hC.2 j c _ hj hv
 refine ⟨_, ?_, this.1, this.2⟩
 rw [List.getElem?_take, if_pos (by omega), List.getElem?_drop, ← hu, List.getElem?_take, if_pos (by omega)] at hv
 simpa using hv
theorem po (b o j : Nat) : (⟨b, o, none⟩ : Addr).add j = ⟨b, o + j, none⟩ := by
 unfold Addr.add
 split
 ·rename_i h; subst h; rfl
 ·rfl
theorem I5 (hM : Mem C S0 L0 w0 S B H F w) {x : AV} {v : Value} (hx : AVR S w B x v) {new : List Dat} (h : see 1 H x = some (.lst new)) {sz : Nat} (hz : ∀ y ∈ new, y.cells.length = sz) :
  (v = .slice none 0 0 ∧ new = []) ∨ ∃ a c news, v = .slice (some a) new.length c ∧ c ≤ maxLen ∧ new.length ≤ c ∧ (∀ j u, news[j]? = some u → w.cell? (a.add j) = some u) ∧ eG S w sz new news := by
 cases x with
 | d x0 =>
  simp only [see, Option.some.injEq] at h
  subst h
  cases hx with
  | d _ _ hx =>
  cases hx with
  | nil => exact .inl ⟨rfl, rfl⟩
  | emp a cap hm => exact .inr ⟨a, cap, [], rfl, hm, Nat.zero_le _, fun j u hj => by simp at hj, by simp, fun i x hx => by simp at hx⟩
  | lst _ b off cap sz' us hS hl hm hzz hc ho hv =>
   have hsz : ∀ i x, new[i]? = some x → sz' = sz := fun i x hi => (hzz i x hi).symm.trans (hz x (List.mem_of_getElem? hi))
   refine .inr ⟨⟨b, off, none⟩, cap, (List.range (new.length * sz)).map (fun k => us (k / sz) (k % sz)), rfl, hm, hl, ?_, ?_⟩
   ·intro j u hj
    obtain ⟨hj1, hj2⟩ := List.getElem?_eq_some_iff.1 hj
    simp only [List.length_map, List.length_range] at hj1
    have hpos : 0 < sz := Nat.pos_of_ne_zero (fun e => by subst e; simp at hj1)
    have hi : j / sz < new.length := (Nat.div_lt_iff_lt_mul hpos).2 hj1
    have e := hsz _ _ (List.getElem?_eq_getElem hi)
    subst e
    rw [← hj2]
    have := hc (j / sz') (j % sz') hi (Nat.mod_lt _ hpos)
    rw [Nat.mul_comm, Nat.div_add_mod] at this
    rw [po]; simpa using this
   ·refine ⟨by simp, fun i x hx => ?_⟩
    have e := hsz i x hx
    subst e
    have hzx := hz x (List.mem_of_getElem? hx)
    have hi : i < new.length := (List.getElem?_eq_some_iff.1 hx).1
    have hle : (i + 1) * sz' ≤ new.length * sz' := Nat.mul_le_mul_right _ hi
    rw [Nat.succ_mul] at hle
    refine ⟨hzx, by simp [hzx]; omega, fun j c u hj hu => ?_⟩
    have hjl : j < sz' := by have := (List.getElem?_eq_some_iff.1 hj).1; omega
    rw [List.getElem?_take, if_pos hjl, List.getElem?_drop] at hu
    obtain ⟨hu1, hu2⟩ := List.getElem?_eq_some_iff.1 hu
    simp only [List.getElem_map, List.getElem_range] at hu2
    have e1 : (i * sz' + j) / sz' = i := by rw [Nat.mul_comm, Nat.mul_add_div (by omega), Nat.div_eq_of_lt hjl]; omega
    have e2 : (i * sz' + j) % sz' = j := by rw [Nat.mul_comm, Nat.mul_add_mod, Nat.mod_eq_of_lt hjl]
    rw [e1, e2] at hu2
    rw [← hu2]
    exact ⟨ho i j hi hjl, hv i x j c hx hj⟩
 | nil => simp only [see, Option.some.injEq, Dat.lst.injEq] at h; subst h; cases hx; exact .inl ⟨rfl, rfl⟩
 | sl id lo hi =>
  have key : ∀ (xs : List Dat), (∀ p, B id = some p → ∃ arr e fr, w.heap[p.blk]? = some (.cells arr e fr) ∧ kB S w p arr xs) →
    (if lo ≤ hi ∧ hi ≤ xs.length then some (Dat.lst (win xs lo hi)) else none) = some (.lst new) →
    (v = .slice none 0 0 ∧ new = []) ∨ ∃ a c news, v = .slice (some a) new.length c ∧ c ≤ maxLen ∧ new.length ≤ c ∧ (∀ j u, news[j]? = some u → w.cell? (a.add j) = some u) ∧ eG S w sz new news := by
   intro xs hrow h
   split at h
   ·rename_i hb
    cases h
    have hwl := rf hb.1 hb.2
    rcases hx.slCases with ⟨rfl, rfl, rfl⟩ | ⟨p, off, c, hp, rfl, h1, h2, h3, h4, _⟩
    ·exact .inl ⟨rfl, by simp [win]⟩
    ·right
     by_cases he : lo = hi
     ·subst he
      have hnil : win xs lo lo = [] := List.eq_nil_of_length_eq_zero (by omega)
      exact ⟨⟨p.blk, off, none⟩, c, [], by rw [hnil]; simp, h3, by rw [hnil]; simp, fun j u hj => by simp at hj, by rw [hnil]; exact eG.nil sz⟩
     ·obtain rfl := h4.resolve_right he
      obtain ⟨arr, e, fr, hb', hr⟩ := hrow p hp
      have hx0 : (win xs lo hi)[0]? = some ((win xs lo hi)[0]'(by omega)) := List.getElem?_eq_getElem _
      have hsz : p.sz = sz := by
       have h5 := (hr.elem (nv hx0).1).2.1
       have h6 := hz _ (List.mem_of_getElem? hx0)
       omega
      have hL := hr.rowL lo hi hb.1 hb.2
      refine ⟨_, c, _, by rw [hwl], h3, by omega, ?_, by rw [← hsz]; exact hL⟩
      intro j u hj
      rw [List.getElem?_take] at hj
      split at hj
      ·rw [List.getElem?_drop] at hj
       rw [po, cell_of_row w p.blk _ arr e fr hb']
       simpa using hj
      ·cases hj
   ·cases h
  have hh := hM.homes id
  cases hH : H id with
  | own z xs =>
   rw [hH] at hh
   simp only [see, hH] at h
   refine key xs (fun p hp => ?_) h
   cases hh with
   | own _ p' arr e hp' hb hr => rw [hp'] at hp; cases hp; exact ⟨arr, e, _, hb, hr⟩
   | ownz _ hn => rw [hn] at hp; cases hp
  | imm z xs =>
   rw [hH] at hh
   simp only [see, hH] at h
   refine key xs (fun p hp => ?_) h
   cases hh with
   | imm _ p' arr e fr hp' hS hb hr => rw [hp'] at hp; cases hp; exact ⟨arr, e, _, hb, hr⟩
   | immz _ hn => rw [hn] at hp; cases hp
  | box cs => simp [see, hH] at h
  | immb cs => simp [see, hH] at h
  | dead => simp [see, hH] at h
  | map es => simp [see, hH] at h
 | undef => simp [see] at h
 | pt id off =>
  simp only [see] at h
  split at h <;> simp at h
 | pe id i j => simp [see] at h
 | agg cs => simp [see] at h
 | tup cs => simp [see] at h
 | fn f cs => simp [see] at h
 | bad => simp [see] at h
 | mp id => simp [see] at h
theorem Gv (V : ca P C) {t el : TypeId} (ht : cd C t = some el) : P.underlying t = some (.slice el) := by
 unfold cd at ht
 split at ht
 ·rename_i y hy
  split at ht
  ·rename_i e' hd
   cases ht
   exact (V.ty t y hy).1.trans (by rw [hd])
  ·cases ht
 ·cases ht
theorem I6 (hM : Mem C S0 L0 w0 S B H F w) {x : AV} {v : Value} (hx : AVR S w B x v) {e : TypeId} {sz : Nat} {xs : List Dat} {H1 : Hs}
  (h : pH H ⟨e, sz⟩ x = some (xs, H1)) :
  Mem C S0 L0 w0 S B H1 F w ∧ ∃ us, w.ownsRow 0 e sz v xs.length us ∧ eG S w sz xs us ∧
   ∀ b, v.ownBlock = some b → ¬ S b ∧ (L0 b ∨ w0.heap.size ≤ b) ∧ ∀ id p, (H1 id).live = true → B id = some p → p.blk ≠ b := by
 cases x <;> simp only [pH, reduceCtorEq] at h
 ·cases h
  cases hx
  exact ⟨hM, [], World.ownsRow_nil w 0 e sz, eG.nil sz, fun b hb => by simp [Value.ownBlock] at hb⟩
 ·rename_i id lo hi
  split at h
  ·rename_i z ys hH
   split at h
   ·rename_i hc
    obtain ⟨rfl, hle, rfl⟩ := hc
    cases h
    refine ⟨hM.drop id, ?_⟩
    have hlen : (ys.take hi).length = hi := by simp; omega
    rcases hx.slCases with ⟨_, rfl, rfl⟩ | ⟨p, off, c, hp, rfl, h1, h2, h3, h4, h5⟩
    ·exact ⟨[], by simpa using World.ownsRow_nil w 0 e sz, by simpa using eG.nil sz, fun b hb => by simp [Value.ownBlock] at hb⟩
    ·obtain ⟨rfl, rfl, h6⟩ := h5 rfl
     have hh := hM.homes id
     rw [hH] at hh
     cases hh with
     | ownz _ hn => rw [hn] at hp; cases hp
     | own _ p' arr _ hp' hb hr =>
      rw [hp'] at hp
      cases hp
      have hL := hr.rowL 0 hi (Nat.zero_le _) hle
      simp only [win, List.drop_zero, Nat.sub_zero, Nat.zero_mul] at hL
      refine ⟨_, ?_, hL, ?_⟩
      ·rw [hlen]
       exact ⟨by rw [hL.1, hlen], .inr ⟨p.blk, p.cap, arr, by simp, Nat.zero_le _, hb, h6, h3, hr.1, rfl⟩⟩
      ·intro b hb'
       simp only [Value.ownBlock, Option.some.injEq] at hb'
       subst hb'
       refine ⟨hM.off id p (by rw [hH]; rfl) hp', hM.liveIn id p (by rw [hH]; rfl) hp', fun j q hl hq => ?_⟩
       have hj : j ≠ id := fun e => by subst e; simp [upd, dq.live] at hl
       simp only [upd, hj, if_false] at hl
       exact hM.inj j id q p hl (by rw [hH]; rfl) hq hp' hj
   ·cases h
  ·cases h
theorem Gw (V : ca P C) (hM : Mem C S0 L0 w0 S B H F w) (hF : F nx) {ts tx ty : TypeId} {s x r : AV} {sv xv : Value} (hs : AVR S w B s sv) (hx : AVR S w B x xv) {H1 : Hs} {n1 : Nat}
  (h : ky C H nx ts tx s x = some (r, H1, n1)) :
  mw C S0 L0 w0 S B F nx w ((do pure (.value (← Builtin.append_ #[ts, tx] ty #[sv, xv])) : Sem Next).run P w) r H1 n1 := by
 unfold ky at h
 split at h
 ·rename_i htt
  subst htt
  split at h
  ·cases h
  ·rename_i e hte
   split at h
   ·cases h
   ·rename_i ye hye
    have hun := Gv V hte
    obtain ⟨_, i, z, hi, hsz, hby, hz, hzr⟩ := V.ty e ye hye
    split at h
    ·rename_i xs H2 new hb hn
     split at h
     ·rename_i hc
      cases h
      obtain ⟨hall, hpos, hbp, hbytes⟩ := hc
      have hall' : ∀ y ∈ new, y.cells.length = ye.size := fun y hy => by simpa using List.all_eq_true.1 hall y hy
      obtain ⟨hM2, us, hown, hL, hrow⟩ := I6 hM hs hb
      have hmax : xs.length + new.length ≤ maxLen := by
       have : (xs.length + new.length) * 1 ≤ (xs.length + new.length) * ye.bytes := Nat.mul_le_mul_left _ hbp
       simp only [maxLen]; omega
      -- what the call leaves, in every case
      have key : ∃ v' w' news, (Builtin.append_ #[ts, ts] ty #[sv, xv]).run P w = .ok v' w' ∧ w'.ownsRow 0 e ye.size v' (xs.length + new.length) (us ++ news) ∧ w.grownBy w' sv.ownBlock ∧
        (v'.ownBlock = sv.ownBlock ∨ v'.ownBlock = some w.heap.size) ∧ eG S w ye.size new news := by
       rcases I5 hM hx hn hall' with ⟨rfl, rfl⟩ | ⟨a, c, news, rfl, hcm, hcl, hcells, hLn⟩
       ·exact ⟨sv, w, [], run_append_owned_none w 0 ts ty e i ye.size hun hi sv xs.length us hown, by simpa using hown, ⟨rfl, rfl, rfl, Nat.le_refl _, fun _ _ _ => rfl⟩, .inl rfl, eG.nil _⟩
       ·have hone : ∀ u ∈ news, u.oneCell' = true := by
         intro u hu
         obtain ⟨k, hk⟩ := List.getElem?_of_mem hu
         have hkl : k < news.length := (List.getElem?_eq_some_iff.1 hk).1
         rw [hLn.1] at hkl
         have hdi : k / ye.size < new.length := (Nat.div_lt_iff_lt_mul hpos).2 hkl
         obtain ⟨_, hC⟩ := hLn.2 _ _ (List.getElem?_eq_getElem hdi)
         refine hC.one u (List.mem_of_getElem? (i := k % ye.size) ?_)
         rw [List.getElem?_take, if_pos (Nat.mod_lt _ hpos), List.getElem?_drop, Nat.mul_comm, Nat.div_add_mod]
         exact hk
        obtain ⟨v', w', h1, h2, h3, _, h5⟩ := run_append_own_at (P := P) w 0 ts ty e i z ye.size ye.bytes hun hi hz hsz hby hzr.1 hpos sv xs.length us hown a new.length c news hLn.1 hcells hone hmax hbytes (Nat.zero_le _)
        exact ⟨v', w', news, h1, h2, h3, h5, hLn⟩
      obtain ⟨v', w', news, hrun, hown', hgr, hat, hLn⟩ := key
      have hsame := Cl hgr hM.lt (fun b hb => (hrow b hb).1)
      have hLall := (hL.app hLn).mono (fun _ h => h) hsame
      rcases hown'.2 with ⟨rfl, h0⟩ | ⟨g, cap, cur, rfl, _, hg, hnc, hcm, hcs, htake⟩
      ·have hx0 : xs = [] := List.eq_nil_of_length_eq_zero (by omega)
       have hn0 : new = [] := List.eq_nil_of_length_eq_zero (by omega)
       subst hx0 hn0
       have hBn : upd B nx none nx = none := by simp [upd]
       obtain ⟨hM3, hE⟩ := hM2.grown hF hgr hrow none (fun p hp => by cases hp) (.own ⟨e, ye.size⟩ []) (.ownz _ hBn)
       exact ⟨_, _, S, _, .inl (by simp [hrun]), .slz nx, by simpa using hM3, fun _ h => h, hsame, hE⟩
      ·have hq : ∀ p : Pl, some (⟨g, ye.size, cap⟩ : Pl) = some p → sv.ownBlock = some p.blk ∨ p.blk = w.heap.size := by
        intro p hp
        cases hp
        rcases hat with h1 | h1
        ·exact .inl h1.symm
        ·exact .inr (by simpa [Value.ownBlock] using h1)
       obtain ⟨hM3, hE⟩ := hM2.grown hF hgr hrow (some ⟨g, ye.size, cap⟩) hq (.own ⟨e, ye.size⟩ (xs ++ new))
        (.own _ ⟨g, ye.size, cap⟩ cur e (by simp [upd]) hg (eG.pre (p := ⟨g, ye.size, cap⟩) hLall (by simpa using htake) hcs (by simpa using hnc) hcm))
       refine ⟨.slice (some ⟨g, 0, none⟩) (xs.length + new.length) cap, w', S, _, .inl (by simp [hrun]), ?_, hM3, fun _ h => h, hsame, hE⟩
       simpa using AVR.sl (S := S) (w := w') (B := upd B nx (some ⟨g, ye.size, cap⟩)) nx 0 (xs.length + new.length) ⟨g, ye.size, cap⟩ (by simp [upd]) (Nat.zero_le _) hnc (.inl rfl) hcm
     ·cases h
    ·cases h
 ·cases h
end
end Go.Jv
namespace Go.Jv
section
variable {P : Program} {C : Cfg} {S0 : Nat → Prop} {L0 : Lz} {w0 : World} {S : Nat → Prop} {B : Nat → Option Pl} {H : Hs} {F : Nat → Prop} {nx : Nat} {w : World}
theorem Cw (V : ca P C) {t k e : TypeId} (h : qB C t = some (k, e)) : P.underlying t = some (.map k e) := by
 unfold qB at h
 split at h
 ·rename_i y hy
  split at h
  ·rename_i k' e' hd
   cases h
   rw [(V.ty t y hy).1, hd]
  ·cases h
 ·cases h
inductive Kd : TypeDesc → Dat → Value → Prop where
 | int (q k : IntKind) (n : Int) : Kd (.int q) (.int k n) (.int k n)
 | str (s : ByteArray) : Kd .string (.str s) (.string s)
 | bool (b : Bool) : Kd .bool (.bool b) (.bool b)
theorem Ja (V : ca P C) {k : TypeId} {x : Dat} {v : Value} (h : rj C k x = true) (hv : VR S w x v) : ∃ d, P.underlying k = some d ∧ Kd d x v := by
 unfold rj at h
 cases hy : C.ty k with
 | none => simp [hy] at h
 | some y =>
  simp only [hy, Option.map_some] at h
  refine ⟨y.desc, (V.ty k y hy).1, ?_⟩
  split at h
  ·rename_i q k' n hd
   simp only [Option.some.injEq] at hd
   rw [hd]; cases hv; exact .int ..
  ·rename_i s hd
   simp only [Option.some.injEq] at hd
   rw [hd]; cases hv; exact .str ..
  ·rename_i b hd
   simp only [Option.some.injEq] at hd
   rw [hd]; cases hv; exact .bool ..
  ·cases h
theorem Kd.keyV {d : TypeDesc} {x : Dat} {v : Value} (h : Kd d x v) : keyV x = some v := by cases h <;> rfl
theorem Kd.check {d : TypeDesc} {x : Dat} {v : Value} {k : TypeId} (h : Kd d x v) (hu : P.underlying k = some d) (em : Bool) : (Instr.checkKey em 10000 k v).run P w = .ok () w := by
 have key : ∀ n, (Instr.checkKey em (n + 1) k v).run P w = .ok () w := fun n => by cases h <;> simp [Instr.checkKey, run_underlying hu]
 exact key 9999
theorem Kd.same {d : TypeDesc} {x q : Dat} {v qv : Value} {b : Bool} (h : Kd d x v) (hs : lq x q = some b) (hq : Go.Jv.keyV q = some qv) : Instr.sameNow d v qv = some b := by
 cases h <;> cases q <;> simp_all [lq, Go.Jv.keyV] <;> subst hq <;> simp_all [Instr.sameNow]
def I8 (S : Nat → Prop) (w : World) (es : List (Dat × Dat)) (as : List MapEntry) : Prop :=
 as.length = es.length ∧ ∀ (j : Nat) k v, es[j]? = some (k, v) → ∃ a, as[j]? = some a ∧ keyV k = some a.key ∧ VR S w v a.val
theorem oJ {d : TypeDesc} {x : Dat} {kv : Value} (hk : Kd d x kv) : ∀ (es : List (Dat × Dat)) (as : List MapEntry) (i : Nat) (r : Option (Nat × Dat)), I8 S w es as → tm x es i = some r →
  match r with
  | none => Instr.findNow d kv as i = some none
  | some (n, v) => ∃ j a q, n = i + j ∧ es[j]? = some (q, v) ∧ as[j]? = some a ∧ lq x q = some true ∧ keyV q = some a.key ∧ VR S w v a.val ∧ Instr.findNow d kv as i = some (some (n, a.val))
 | [], as, i, r, hE, h => by
  have : as = [] := by simpa using hE.1
  subst this
  simp only [tm, Option.some.injEq] at h
  subst h
  rfl
 | (q, v) :: es, as, i, r, hE, h => by
  match as, hE with
  | [], hE => exact absurd hE.1 (by simp)
  | a :: as, hE =>
   obtain ⟨a', h1, h2, h3⟩ := hE.2 0 q v rfl
   obtain rfl : a = a' := by simpa using h1
   have hE' : I8 S w es as := ⟨by simpa using hE.1, fun j k v hj => by simpa using hE.2 (j + 1) k v (by simpa using hj)⟩
   simp only [tm] at h
   split at h
   ·rename_i hs
    cases h
    exact ⟨0, a, q, rfl, rfl, rfl, hs, h2, h3, by simp [Instr.findNow, hk.same hs h2]⟩
   ·rename_i hs
    have ih := oJ hk es as (i + 1) r hE' h
    have hn : Instr.findNow d kv (a :: as) i = Instr.findNow d kv as (i + 1) := by simp [Instr.findNow, hk.same hs h2]
    cases r with
    | none => exact hn.trans ih
    | some r =>
     obtain ⟨n, v'⟩ := r
     obtain ⟨j, a', q', h4, h5, h6, h7, h8, h9, h10⟩ := ih
     exact ⟨j + 1, a', q', by omega, by simpa using h5, by simpa using h6, h7, h8, h9, hn.trans h10⟩
   ·cases h
theorem HR.mapE {id : Nat} {es : List (Dat × Dat)} (h : HR S w B id (.map es)) : ∃ p arr clock, B id = some p ∧ w.heap[p.blk]? = some (.map arr clock) ∧ I8 S w es arr.toList := by
 cases h with
 | map _ p arr clock hp hb hl hv => exact ⟨p, arr, clock, hp, hb, by simpa using hl, fun j k v hj => by obtain ⟨a, h1, h2⟩ := hv j k v hj; exact ⟨a, by simpa using h1, h2⟩⟩
theorem K5 (V : ca P C) {e : TypeId} {z : Dat} (h : cw C e = some z) : ∃ v, (zeroValue e).run P w = .ok v w ∧ VR S w z v := by
 unfold cw at h
 cases hy : C.ty e with
 | none => simp [hy] at h
 | some y =>
  simp only [hy] at h
  obtain ⟨_, i, v, hi, hsz, hby, hz, hzr⟩ := V.ty e y hy
  refine ⟨v, by simp [zeroValue, typeInfo, hi, hz], ?_⟩
  have hc := te.cells (S := S) (w := w) (B := fun _ => none) hzr
  split at h
  ·rename_i cs hcs
   have hA : AVR S w (fun _ => none) (.agg y.zero) (.agg v.cells) := .agg _ _ (by simpa using hc.1) (fun u hu => hc.one u (by simpa using hu)) (fun j c u hj hu => (hc.2 j c u hj (by simpa using hu)).2)
   have hV : VR S w (.agg cs) (.agg v.cells) := jT hA (by simp only [dN, hcs]; rfl)
   unfold mkD at h
   split at h
   ·rename_i ha
    cases h
    rw [hzr.2.2.2.2.1 ha]; exact hV
   ·rename_i ha
    have hna := hzr.2.2.2.2.2 (by simpa using ha)
    split at h
    ·cases h
     have e1 : v.cells = #[v] := by
      cases v <;> first | rfl | exact absurd rfl (hna.2 _)
     rw [e1] at hV
     cases hV with
     | agg _ _ hl ho hv => exact hv 0 z v rfl rfl
    ·cases h
  ·cases h
theorem FT (V : ca P C) (hM : Mem C S0 L0 w0 S B H F w) {t : TypeId} {m x r : AV} {mv xv : Value} {ok : Bool} (hm : AVR S w B m mv) (hx : AVR S w B x xv) (h : oZ C H t m x ok = some r) :
  ∃ v, (Instr.lookup t mv xv ok).run P w = .ok v w ∧ AVR S w B r v := by
 unfold oZ at h
 split at h
 ·rename_i id key k e hd hmt
  split at h
  ·rename_i es hH
   split at h
   ·rename_i hk
    cases hm with
    | mp _ p hp =>
     have hh := hM.homes id
     rw [hH] at hh
     obtain ⟨q, arr, clock, hq, hb, hE⟩ := hh.mapE
     obtain rfl : q = p := by rw [hq] at hp; exact Option.some.inj hp
     have hkv := jT hx hd
     obtain ⟨d, hu, hK⟩ := Ja V hk hkv
     have hmu := Cw V hmt
     have fin : ∀ (z : Dat) (zv : Value) (b : Bool), VR S w z zv → some (if ok then AV.tup [.d z, .d (.bool b)] else .d z) = some r → AVR S w B r (if ok then .tuple #[zv, .bool b] else zv) := by
      intro z zv b hz hr
      cases hr
      cases ok
      ·exact .d _ _ hz
      ·refine .tup _ _ rfl fun j c u hj hu => ?_
       match j with
       | 0 => simp at hj hu; subst hj hu; exact .d _ _ hz
       | 1 => simp at hj hu; subst hj hu; exact .d _ _ (.bool b)
       | j + 2 => simp at hj
     split at h
     ·rename_i n v hf
      obtain ⟨j, a, q', h4, h5, h6, h7, h8, h9, h10⟩ := oJ hK es arr.toList 0 _ hE hf
      refine ⟨_, ?_, fin v a.val true h9 h⟩
      cases ok <;> simp [Instr.lookup, run_underlying hmu, MapKept.run_getObj_map hb, hK.check hu, Instr.findKey, run_underlying hu, h10, Result.andThen]
     ·rename_i hf hz
      have h10 := oJ hK es arr.toList 0 _ hE hf
      obtain ⟨zv, hzr, hzv⟩ := K5 (S := S) (w := w) V hz
      refine ⟨_, ?_, fin _ zv false hzv h⟩
      cases ok <;> simp [Instr.lookup, run_underlying hmu, MapKept.run_getObj_map hb, hK.check hu, Instr.findKey, run_underlying hu, h10, hzr, Result.andThen]
     ·cases h
   ·cases h
  ·cases h
 ·cases h
theorem Kd.same_key {d : TypeDesc} {x q : Dat} {v qv : Value} (h : Kd d x v) (hs : lq x q = some true) (hq : Go.Jv.keyV q = some qv) : qv = v := by
 cases h <;> cases q <;> simp_all [lq, Go.Jv.keyV, MapKept.bytes_beq]
theorem Kd.stays {d : TypeDesc} {x : Dat} {v : Value} (h : Kd d x v) : (Instr.keyThatStays v v).run P w = .ok v w := by
 have e : ∀ s : ByteArray, (s == s) = true := fun s => (MapKept.bytes_beq s s).2 rfl
 cases h <;> simp [Instr.keyThatStays, Instr.sameBits, e]
theorem VR.set {b : Nat} {o : Obj} {x : Dat} {v : Value} (h : VR S w x v) (hb : ¬ S b) : VR S { w with heap := w.heap.setIfInBounds b o } x v :=
 h.mono (fun _ h => h) fun c hc => by
  have : b ≠ c := fun e => hb (e ▸ hc)
  simp [Array.getElem?_setIfInBounds_ne this]
theorem FU (V : ca P C) (hM : Mem C S0 L0 w0 S B H F w) {t : TypeId} {m x v : AV} {mv xv vv : Value} (hm : AVR S w B m mv) (hx : AVR S w B x xv) (hv : AVR S w B v vv) {H1 : Hs} (h : rB C H t m x v = some H1) :
  ∃ w1 S1, (Instr.mapUpdate t mv xv vv).run P w = .ok () w1 ∧ Mem C S0 L0 w0 S1 B H1 F w1 ∧ (∀ b, S b → S1 b) ∧ gn S w w1 := by
 unfold rB at h
 split at h
 ·rename_i id key k e d H2 hd hmt hfz
  split at h
  ·rename_i es hH
   split at h
   ·rename_i hk
    obtain ⟨es1, hput, rfl⟩ := Option.map_eq_some_iff.1 h
    cases hm with
    | mp _ p hp =>
     have hkv := jT hx hd
     obtain ⟨S1, hM1, hS1, hxd, _⟩ := tc 4 hM hv hfz
     have hh := hM1.homes id
     rw [hH] at hh
     obtain ⟨q, arr, clock, hq, hb, hE⟩ := hh.mapE
     obtain rfl : q = p := by rw [hq] at hp; exact Option.some.inj hp
     obtain ⟨dd, hu, hK⟩ := Ja V hk hkv
     have hmu := Cw V hmt
     have hl : (H2 id).live = true := by rw [hH]; rfl
     have hoff := hM1.off id q hl hq
     have fin : ∀ (arr' : Array MapEntry) (clock' : Nat), I8 S1 w es1 arr'.toList → (Instr.mapUpdate t (.map (some q.blk)) xv vv).run P w = .ok () { w with heap := w.heap.setIfInBounds q.blk (.map arr' clock') } →
       ∃ w1 S1, (Instr.mapUpdate t (.map (some q.blk)) xv vv).run P w = .ok () w1 ∧ Mem C S0 L0 w0 S1 B (upd H2 id (.map es1)) F w1 ∧ (∀ b, S b → S1 b) ∧ gn S w w1 := by
      intro arr' clock' hE' hrun
      have hblt : q.blk < w.heap.size := (Array.getElem?_eq_some_iff.1 hb).1
      have hother : ∀ b, b ≠ q.blk → ({ w with heap := w.heap.setIfInBounds q.blk (.map arr' clock') } : World).heap[b]? = w.heap[b]? := fun b hne => by
       simp [Array.getElem?_setIfInBounds_ne (Ne.symm hne)]
      refine ⟨_, S1, hrun, hM1.write id q hl hq (.map es1) rfl rfl rfl (by simp) hother rfl ?_, hS1, fun b hb' => hother b (fun e => hoff (e ▸ hS1 b hb'))⟩
      refine .map es1 q arr' clock' hq (by simp [hblt]) (by simpa using hE'.1) fun j k v hj => ?_
      obtain ⟨a, h1, h2, h3⟩ := hE'.2 j k v hj
      exact ⟨a, by simpa using h1, h2, h3.set hoff⟩
     unfold BO at hput
     split at hput
     ·rename_i n v0 hf
      cases hput
      obtain ⟨j, a, q', h4, h5, h6, h7, h8, h9, h10⟩ := oJ hK es arr.toList 0 _ hE hf
      have hn : n = j := by omega
      subst hn
      have hak : a.key = xv := hK.same_key h7 h8
      have hja : arr[n]? = some a := by simpa using h6
      refine fin (arr.modify n fun e => { e with key := xv, val := vv }) clock ⟨by simpa using hE.1, fun j k v hj => ?_⟩ ?_
      ·by_cases e1 : j = n
       ·subst e1
        have hlt : j < es.length := (List.getElem?_eq_some_iff.1 h5).1
        rw [List.getElem?_set_self hlt] at hj
        cases hj
        refine ⟨{ a with key := xv, val := vv }, ?_, hK.keyV, hxd⟩
        rw [Array.getElem?_toList, Array.getElem?_modify, if_pos rfl, hja]; rfl
       ·rw [List.getElem?_set_ne (fun e => e1 e.symm)] at hj
        obtain ⟨a', h1, h2⟩ := hE.2 j k v hj
        refine ⟨a', ?_, h2⟩
        rw [Array.getElem?_toList, Array.getElem?_modify, if_neg (fun e => e1 e.symm)]
        simpa using h1
      ·simp [Instr.mapUpdate, run_underlying hmu, MapKept.run_getObj_map hb, hK.check hu, Instr.findKey, run_underlying hu, h10, hja, hak, hK.stays, MapKept.run_setObj_map _ hb, Result.andThen]
     ·rename_i hf
      cases hput
      have h10 := oJ hK es arr.toList 0 _ hE hf
      refine fin (arr.push ⟨xv, vv, clock⟩) (clock + 1) ⟨by simpa using hE.1, fun j k v hj => ?_⟩ ?_
      ·by_cases e1 : j < es.length
       ·rw [List.getElem?_append_left e1] at hj
        obtain ⟨a', h1, h2⟩ := hE.2 j k v hj
        refine ⟨a', ?_, h2⟩
        have : j < arr.toList.length := by rw [hE.1]; exact e1
        rw [Array.toList_push, List.getElem?_append_left this]; exact h1
       ·rw [List.getElem?_append_right (by omega)] at hj
        have e2 : j - es.length = 0 := by
         refine Classical.byContradiction fun hn => ?_
         obtain ⟨k', hk'⟩ : ∃ k', j - es.length = k' + 1 := ⟨j - es.length - 1, by omega⟩
         rw [hk'] at hj; simp at hj
        rw [e2] at hj
        simp at hj
        obtain ⟨rfl, rfl⟩ := hj
        refine ⟨⟨xv, vv, clock⟩, ?_, hK.keyV, hxd⟩
        have e3 : j = arr.toList.length := by rw [hE.1]; omega
        rw [Array.toList_push, e3]; simp
      ·simp [Instr.mapUpdate, run_underlying hmu, MapKept.run_getObj_map hb, hK.check hu, Instr.findKey, run_underlying hu, h10, MapKept.run_setObj_map _ hb, Result.andThen]
     ·cases hput
   ·cases h
  ·cases h
 ·cases h
theorem FV (hM : Mem C S0 L0 w0 S B H F w) (hF : F nx) {t : TypeId} :
  mw C S0 L0 w0 S B F nx w ((do pure (.value (← Instr.makeMap t none)) : Sem Next).run P w) (.mp nx) (upd H nx (.map [])) (nx + 1) := by
 have hE := hM.ext_new hF ⟨w.heap.size, 1, 0⟩
 have hs := jN (w := w) hM.lt (.map #[] 0)
 refine ⟨_, _, S, upd B nx (some ⟨w.heap.size, 1, 0⟩), .inl (by simp [RowKit.run_makeMap]), .mp nx ⟨w.heap.size, 1, 0⟩ (by simp [upd]), hM.new hF _ _ 1 0 ?_, fun _ h => h, hs, hE⟩
 exact .map [] ⟨w.heap.size, 1, 0⟩ #[] 0 (by simp [upd]) (heap_alloc_new w _) rfl (fun j k v hj => by simp at hj)
end
end Go.Jv
