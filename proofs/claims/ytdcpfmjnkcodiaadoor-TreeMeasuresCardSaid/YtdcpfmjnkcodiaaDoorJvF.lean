/- The operations that read and write cells. -/
import Derived.Test.YtdcpfmjnkcodiaaDoorJvE
namespace Go.Jv

def mkV (g : Bool) (us : List Value) : Option Value :=
  if g then some (.agg us.toArray) else match us with | [u] => some u | _ => none

/-- values of cells against their trees, or places -/
def CellsD (S : Nat → Prop) (w : World) (cs : List Dat) (us : List Value) : Prop :=
  cs.length = us.length ∧ ∀ (j : Nat) c u, cs[j]? = some c → us[j]? = some u → u.oneCell' = true ∧ VR S w c u
def CellsA (S : Nat → Prop) (w : World) (B : Nat → Option Pl) (cs : List AV) (us : List Value) : Prop :=
  cs.length = us.length ∧ ∀ (j : Nat) c u, cs[j]? = some c → us[j]? = some u → u.oneCell' = true ∧ AVR S w B c u

section
variable {P : Program} {C : Cfg} {S0 L0 : Nat → Prop} {w0 : World} {S : Nat → Prop} {B : Nat → Option Pl} {H : Hs} {F : Nat → Prop} {nx : Nat} {w : World}

theorem isRow_eq (d : TypeDesc) : d.isRow = isAgg d := by cases d <;> rfl

theorem oneCell_mem {us : List Value} (h : ∀ (j : Nat) u, us[j]? = some u → u.oneCell' = true) : ∀ u ∈ us, u.oneCell' = true := by
  intro u hu
  obtain ⟨j, hj⟩ := List.mem_iff_getElem?.1 hu
  exact h j u hj

theorem CellsD.one {cs : List Dat} {us : List Value} (h : CellsD S w cs us) : ∀ u ∈ us, u.oneCell' = true := by
  refine oneCell_mem fun j u hu => ?_
  have hj : j < cs.length := by rw [h.1]; exact (List.getElem?_eq_some_iff.1 hu).1
  exact (h.2 j _ u (List.getElem?_eq_getElem hj) hu).1
theorem CellsA.one {cs : List AV} {us : List Value} (h : CellsA S w B cs us) : ∀ u ∈ us, u.oneCell' = true := by
  refine oneCell_mem fun j u hu => ?_
  have hj : j < cs.length := by rw [h.1]; exact (List.getElem?_eq_some_iff.1 hu).1
  exact (h.2 j _ u (List.getElem?_eq_getElem hj) hu).1

theorem CellsD.cut {cs : List Dat} {us : List Value} (h : CellsD S w cs us) {off n : Nat} {ds : List Dat} (hc : cutD cs off n = some ds) : CellsD S w ds ((us.drop off).take n) ∧ ds.length = n ∧ off + n ≤ cs.length := by
  unfold cutD at hc
  split at hc
  · rename_i hle
    cases hc
    have hl := h.1
    refine ⟨⟨by simp [hl], fun j c u hj hu => ?_⟩, by simp; omega, hle⟩
    rw [List.getElem?_take] at hj hu
    split at hj
    · rw [List.getElem?_drop] at hj
      simp only [List.getElem?_drop] at hu
      rename_i hjn
      simp only [hjn, if_true] at hu
      exact h.2 (off + j) c u hj hu
    · cases hj
  · cases hc
theorem CellsA.cut {cs : List AV} {us : List Value} (h : CellsA S w B cs us) {off n : Nat} {ds : List AV} (hc : cutA cs off n = some ds) : CellsA S w B ds ((us.drop off).take n) ∧ ds.length = n ∧ off + n ≤ cs.length := by
  unfold cutA at hc
  split at hc
  · rename_i hle
    cases hc
    have hl := h.1
    refine ⟨⟨by simp [hl], fun j c u hj hu => ?_⟩, by simp; omega, hle⟩
    rw [List.getElem?_take] at hj hu
    split at hj
    · rw [List.getElem?_drop] at hj
      simp only [List.getElem?_drop] at hu
      rename_i hjn
      simp only [hjn, if_true] at hu
      exact h.2 (off + j) c u hj hu
    · cases hj
  · cases hc

theorem CellsD.mk {cs : List Dat} {us : List Value} (h : CellsD S w cs us) {g : Bool} {x : Dat} (hx : mkD g cs = some x) : ∃ v, mkV g us = some v ∧ VR S w x v := by
  cases g with
  | true =>
    simp only [mkD, if_true] at hx
    cases hx
    refine ⟨_, by simp only [mkV, if_true], .agg cs us.toArray (by simpa using h.1) (fun u hu => h.one u (by simpa using hu)) (fun j c u hj hu => (h.2 j c u hj (by simpa using hu)).2)⟩
  | false =>
    simp only [mkD] at hx
    match cs, us, h, hx with
    | [c], [u], h, hx =>
      have e : c = x := by simpa using hx
      subst e
      exact ⟨u, by simp [mkV], (h.2 0 c u rfl rfl).2⟩
    | [c], [], h, _ => exact absurd h.1 (by simp)
    | [c], _ :: _ :: _, h, _ => exact absurd h.1 (by simp)
    | [], _, _, hx => simp at hx
    | _ :: _ :: _, _, _, hx => simp at hx
theorem CellsA.mk {cs : List AV} {us : List Value} (h : CellsA S w B cs us) {g : Bool} {x : AV} (hx : mkA g cs = some x) : ∃ v, mkV g us = some v ∧ AVR S w B x v := by
  cases g with
  | true =>
    simp only [mkA, if_true] at hx
    cases hx
    refine ⟨_, by simp only [mkV, if_true], .agg cs us.toArray (by simpa using h.1) (fun u hu => h.one u (by simpa using hu)) (fun j c u hj hu => (h.2 j c u hj (by simpa using hu)).2)⟩
  | false =>
    simp only [mkA] at hx
    match cs, us, h, hx with
    | [c], [u], h, hx =>
      have e : c = x := by simpa using hx
      subst e
      exact ⟨u, by simp [mkV], (h.2 0 c u rfl rfl).2⟩
    | [c], [], h, _ => exact absurd h.1 (by simp)
    | [c], _ :: _ :: _, h, _ => exact absurd h.1 (by simp)
    | [], _, _, hx => simp at hx
    | _ :: _ :: _, _, _, hx => simp at hx

/-- the real load of cells -/
theorem run_load_cells (V : Valid P C) {t : TypeId} {y : Ty} (hy : C.ty t = some y) {b o : Nat} {us : List Value} (hr : w.rangeAt b o us) (hl : us.length = y.size) {v : Value}
    (hv : mkV (isAgg y.desc) us = some v) : (Instr.loadAt t (.pointer (some ⟨b, o, none⟩))).run P w = .ok v w := by
  obtain ⟨hu, i, z, hi, hsz, _⟩ := V.ty t y hy
  cases hg : isAgg y.desc with
  | true =>
    rw [hg] at hv
    simp only [mkV, if_true] at hv
    cases hv
    exact run_loadAt_mid w b o t us y.desc hr hu (by rw [isRow_eq]; exact hg) (by rw [hi]; simp [hsz, hl])
  | false =>
    rw [hg] at hv
    simp only [mkV] at hv
    match us, hv, hr with
    | [u], hv, hr =>
      have e : u = v := by simpa using hv
      subst e
      have hc : w.cell? ⟨b, o, none⟩ = some u := by simpa using hr 0 u rfl
      have ha : (Go.isAgg t).run P w = .ok false w := by
        unfold Go.isAgg
        rw [Sem.run_bind, run_underlying hu w]
        cases hd : y.desc <;> simp_all [isAgg]
      simp [Instr.loadAt, Instr.sureAddr, loadVar, Sem.run_bind, ha, hc]
    | [], hv, _ => simp at hv
    | _ :: _ :: _, hv, _ => simp at hv

/-- what lies in a block -/
theorem range_of_block {b : Nat} {arr : Array Value} {e : TypeId} {fr : Nat × Nat} (hb : w.heap[b]? = some (.cells arr e fr)) (o n : Nat) : w.rangeAt b o ((arr.toList.drop o).take n) := by
  intro j v hv
  rw [List.getElem?_take] at hv
  split at hv
  · rw [List.getElem?_drop] at hv
    have : arr[o + j]? = some v := by simpa using hv
    simp [World.cell?, hb, this]
  · cases hv

theorem HR.boxCells {id : Nat} {cs : List AV} (h : HR S w B id (.box cs)) : ∃ p arr e, B id = some p ∧ w.heap[p.blk]? = some (.cells arr e (0, 0)) ∧ CellsA S w B cs arr.toList := by
  cases h with
  | box _ p arr e hp hb hl hv =>
    refine ⟨p, arr, e, hp, hb, by simp [hl], fun j c u hj hu => ?_⟩
    obtain ⟨u', h1, h2, h3⟩ := hv j c hj
    have : u' = u := by
      have hu' : arr[j]? = some u := by simpa using hu
      rw [h1] at hu'; exact Option.some.inj hu'
    subst this
    exact ⟨h2, h3⟩
theorem HR.immbCells {id : Nat} {cs : List Dat} (h : HR S w B id (.immb cs)) : ∃ p arr e fr, B id = some p ∧ S p.blk ∧ w.heap[p.blk]? = some (.cells arr e fr) ∧ CellsD S w cs arr.toList := by
  cases h with
  | immb _ p arr e fr hp hS hb hl hv =>
    refine ⟨p, arr, e, fr, hp, hS, hb, by simp [hl], fun j c u hj hu => ?_⟩
    obtain ⟨u', h1, h2, h3⟩ := hv j c hj
    have : u' = u := by
      have hu' : arr[j]? = some u := by simpa using hu
      rw [h1] at hu'; exact Option.some.inj hu'
    subst this
    exact ⟨h2, h3⟩

/-- an element's cells in its block -/
theorem RowR.elem {p : Pl} {arr : Array Value} {xs : List Dat} (h : RowR S w p arr xs) {i : Nat} {x : Dat} (hx : xs[i]? = some x) :
    CellsD S w x.cells ((arr.toList.drop (i * p.sz)).take p.sz) ∧ x.cells.length = p.sz ∧ i * p.sz + p.sz ≤ arr.size := by
  have hi : i < xs.length := (List.getElem?_eq_some_iff.1 hx).1
  have hz := h.2.2.2.1 i x hx
  have hle : i * p.sz + p.sz ≤ arr.size := by
    rw [h.1, ← Nat.succ_mul]
    exact Nat.mul_le_mul_right _ (by have := h.2.1; omega)
  refine ⟨⟨by simp [hz]; omega, fun j c u hj hu => ?_⟩, hz, hle⟩
  obtain ⟨u', h1, h2, h3⟩ := h.2.2.2.2 i x j c hx hj
  rw [List.getElem?_take] at hu
  split at hu
  · rw [List.getElem?_drop] at hu
    have hu' : arr[i * p.sz + j]? = some u := by simpa using hu
    rw [h1] at hu'
    obtain rfl := Option.some.inj hu'
    exact ⟨h2, h3⟩
  · cases hu

theorem drop_take_drop {α : Type} (l : List α) (a b j n : Nat) (h : j + n ≤ b) : (((l.drop a).take b).drop j).take n = (l.drop (a + j)).take n := by
  apply List.ext_getElem?
  intro k
  simp only [List.getElem?_take, List.getElem?_drop]
  by_cases hk : k < n
  · simp only [hk, if_true]
    rw [if_pos (by omega), Nat.add_assoc]
  · simp [hk]

theorem load_sound (V : Valid P C) (hM : Mem C S0 L0 w0 S B H F w) {t : TypeId} {p x : AV} {v : Value} (hp : AVR S w B p v) (h : loadA C H t p = some x) :
    ∃ u, (Instr.loadAt t v).run P w = .ok u w ∧ AVR S w B x u := by
  unfold loadA sizeT aggT at h
  cases hy : C.ty t with
  | none => simp [hy] at h
  | some y =>
    simp only [hy, Option.map_some] at h
    cases p with
    | pt id off =>
      cases hp with
      | pt _ _ q hq =>
        have hh := hM.homes id
        cases hH : H id with
        | box cs =>
          simp only [hH] at h hh
          obtain ⟨q', arr, e, hq', hb, hc⟩ := hh.boxCells
          obtain rfl : q' = q := by rw [hq'] at hq; exact Option.some.inj hq
          obtain ⟨ds, hd, hmk⟩ := Option.bind_eq_some_iff.1 h
          obtain ⟨hcut, hn, hle⟩ := hc.cut hd
          obtain ⟨u, hu, hR⟩ := hcut.mk hmk
          exact ⟨u, run_load_cells V hy (range_of_block hb off y.size) (by rw [← hcut.1, hn]) hu, hR⟩
        | immb cs =>
          simp only [hH] at h hh
          obtain ⟨q', arr, e, fr, hq', _, hb, hc⟩ := hh.immbCells
          obtain rfl : q' = q := by rw [hq'] at hq; exact Option.some.inj hq
          obtain ⟨x', hx', rfl⟩ := Option.map_eq_some_iff.1 h
          obtain ⟨ds, hd, hmk⟩ := Option.bind_eq_some_iff.1 hx'
          obtain ⟨hcut, hn, hle⟩ := hc.cut hd
          obtain ⟨u, hu, hR⟩ := hcut.mk hmk
          exact ⟨u, run_load_cells V hy (range_of_block hb off y.size) (by rw [← hcut.1, hn]) hu, .d _ _ hR⟩
        | own z xs => simp [hH] at h
        | imm z xs => simp [hH] at h
        | dead => simp [hH] at h
    | pe id i j =>
      cases hp with
      | pe _ _ _ q hq =>
        have hh := hM.homes id
        have key : ∀ (xs : List Dat) (arr : Array Value) (e : TypeId) (fr : Nat × Nat), w.heap[q.blk]? = some (.cells arr e fr) → RowR S w q arr xs →
            (match xs[i]? with | some x => ((cutD x.cells j y.size).bind (mkD (isAgg y.desc))).map AV.d | none => none) = some x →
            ∃ u, (Instr.loadAt t (.pointer (some ⟨q.blk, i * q.sz + j, none⟩))).run P w = .ok u w ∧ AVR S w B x u := by
          intro xs arr e fr hb hr h
          cases hx : xs[i]? with
          | none => simp [hx] at h
          | some x1 =>
            simp only [hx] at h
            obtain ⟨x', hx', rfl⟩ := Option.map_eq_some_iff.1 h
            obtain ⟨ds, hd, hmk⟩ := Option.bind_eq_some_iff.1 hx'
            obtain ⟨he, hz, hle⟩ := hr.elem hx
            obtain ⟨hcut, hn, hle2⟩ := he.cut hd
            rw [drop_take_drop _ _ _ _ _ (by omega)] at hcut
            obtain ⟨u, hu, hR⟩ := hcut.mk hmk
            exact ⟨u, run_load_cells V hy (range_of_block hb _ y.size) (by rw [← hcut.1, hn]) hu, .d _ _ hR⟩
        cases hH : H id with
        | own z xs =>
          simp only [hH] at h hh
          cases hh with
          | ownz _ hn => simp at h
          | own _ q' arr e hq' hb hr =>
            obtain rfl : q' = q := by rw [hq'] at hq; exact Option.some.inj hq
            exact key xs arr e _ hb hr h
        | imm z xs =>
          simp only [hH] at h hh
          cases hh with
          | immz => simp at h
          | imm _ q' arr e fr hq' hS hb hr =>
            obtain rfl : q' = q := by rw [hq'] at hq; exact Option.some.inj hq
            exact key xs arr e fr hb hr h
        | box cs => simp [hH] at h
        | immb cs => simp [hH] at h
        | dead => simp [hH] at h
    | d x0 =>
      cases x0 with
      | ptr cs =>
        cases hp with
        | d _ _ hp =>
          cases hp with
          | ptr _ b off us hS hc ho hv =>
            simp only at h
            obtain ⟨x', hx', rfl⟩ := Option.map_eq_some_iff.1 h
            obtain ⟨ds, hd, hmk⟩ := Option.bind_eq_some_iff.1 hx'
            have hC : CellsD S w cs ((List.range cs.length).map us) := by
              refine ⟨by simp, fun j c u hj hu => ?_⟩
              have hjl : j < cs.length := (List.getElem?_eq_some_iff.1 hj).1
              have : us j = u := by simpa [List.getElem?_range, hjl] using hu
              subst this
              exact ⟨ho j hjl, hv j c hj⟩
            obtain ⟨hcut, hn, hle⟩ := hC.cut hd
            obtain ⟨u, hu, hR⟩ := hcut.mk hmk
            refine ⟨u, run_load_cells V hy (fun j v hj => ?_) (by rw [← hcut.1, hn]) hu, .d _ _ hR⟩
            rw [List.getElem?_take] at hj
            split at hj
            · rename_i hjn
              rw [List.drop_zero] at hj
              have hjl : j < cs.length := by omega
              have : us j = v := by simpa [List.getElem?_range, hjl] using hj
              subst this
              exact hc j hjl
            · cases hj
      | _ => simp at h
    | _ => simp at h

end
end Go.Jv
