/- What an operation of the abstract machine that calls no function comes to, the real one does. -/
import Derived.Test.YtdcpfmjnkcodiaaDoorJvK
import Derived.Laws.OwnMore
import Derived.Great.BuildSlice
namespace Go.Jv

section
variable {P : Program} {C : Cfg} {S0 L0 : Nat → Prop} {w0 : World} {S : Nat → Prop} {B : Nat → Option Pl} {H : Hs} {F : Nat → Prop} {nx : Nat} {w : World}

theorem range_map_get (z : Array Value) (n : Nat) (hz : 0 < z.size) (k : Nat) (hk : k < n * z.size) : ((Array.range (n * z.size)).map (z[· % z.size]!)).toList[k]? = z[k % z.size]? := by
  have : k % z.size < z.size := Nat.mod_lt _ hz
  simp [hk, this]

/-- an element's zero as a tree -/
theorem zeroD_sound (V : Valid P C) {e : TypeId} {z : Dat} {y : Ty} (hy : C.ty e = some y) (h : zeroD C e = some z) (hk : (z.cells.map AV.d).all okC = true) :
    ∃ i v, P.info? e = some i ∧ i.zero = some v ∧ i.size = y.size ∧ i.bytes = y.bytes ∧ CellsD S w z.cells v.cells.toList := by
  unfold zeroD at h
  simp only [hy] at h
  obtain ⟨_, i, v, hi, hsz, hby, hz, hzr⟩ := V.ty e y hy
  refine ⟨i, v, hi, hz, hsz, hby, ?_⟩
  split at h
  · rename_i cs hcs
    have hc := ZeroR.cells (S := S) (w := w) (B := fun _ => none) hzr
    have hA : AVR S w (fun _ => none) (.agg y.zero) (.agg v.cells) := .agg _ _ (by simpa using hc.1) (fun u hu => hc.one u (by simpa using hu)) (fun j c u hj hu => (hc.2 j c u hj (by simpa using hu)).2)
    have hV : VR S w (.agg cs) (.agg v.cells) := datA_sound hA (by simp only [datA, hcs]; rfl)
    cases hV with
    | agg _ _ hl ho hv =>
      have hCD : CellsD S w cs v.cells.toList := ⟨by simpa using hl, fun j c u hj hu => ⟨ho u (Array.mem_of_getElem? (by simpa using hu)), hv j c u hj (by simpa using hu)⟩⟩
      unfold mkD at h
      split at h
      · cases h; exact hCD
      · split at h
        · rename_i c
          cases h
          cases z with
          | agg cs' =>
            have hl1 : v.cells.toList.length = 1 := hCD.1.symm
            have hu := List.getElem?_eq_getElem (l := v.cells.toList) (i := 0) (by omega)
            obtain ⟨h1, h2⟩ := hCD.2 0 _ _ rfl hu
            cases h2' : v.cells.toList[0]'(by omega) with
            | agg => rw [h2'] at h1; simp [Value.oneCell'] at h1
            | _ => rw [h2'] at h2; cases h2
          | _ => exact hCD
        · cases h
  · cases h

theorem RowL.zeros {n : Nat} {z : Dat} {v : Array Value} (hz : CellsD S w z.cells v.toList) (hp : 0 < v.size) : RowL S w v.size (List.replicate n z) ((Array.range (n * v.size)).map (v[· % v.size]!)).toList := by
  have hl := hz.1
  simp only [Array.length_toList] at hl
  refine ⟨by simp, fun i x hx => ?_⟩
  rw [List.getElem?_replicate] at hx
  split at hx
  · rename_i hi
    cases hx
    refine ⟨hl, ?_⟩
    have : ((((Array.range (n * v.size)).map (v[· % v.size]!)).toList.drop (i * v.size)).take v.size) = v.toList := by
      apply List.ext_getElem?
      intro j
      rw [List.getElem?_take]
      split
      · rename_i hj
        have hle : (i + 1) * v.size ≤ n * v.size := Nat.mul_le_mul_right _ hi
        rw [Nat.succ_mul] at hle
        rw [List.getElem?_drop, range_map_get v n hp _ (by omega)]
        have : (i * v.size + j) % v.size = j := by rw [Nat.mul_comm, Nat.mul_add_mod, Nat.mod_eq_of_lt hj]
        rw [this]; simp
      · rw [List.getElem?_eq_none (by simpa using (by omega : v.size ≤ j))]
    rw [this]; exact hz
  · cases hx

theorem buildSlice_step (V : Valid P C) (hM : Mem C S0 L0 w0 S B H F w) (hF : F nx) {t el : TypeId} (ht : elemT C t = some el) {z : Dat} {ye : Ty} (hz : zeroD C el = some z) (hye : C.ty el = some ye) {len : Nat}
    (hc : z.cells.length = ye.size ∧ (z.cells.map AV.d).all okC = true ∧ 0 < ye.size ∧ len * ye.size ≤ 16777216) {as : List (Nat × AV)} {vs : List (Nat × Value)} (hp : PartsR S w B as vs) {xs : List Dat} {H1 : Hs}
    (h : partsD ye.size H (List.replicate len z) as = some (xs, H1)) :
    StepR C S0 L0 w0 S B F nx w ((do pure (.value (← Instr.buildSlice t len vs.toArray)) : Sem Next).run P w) (.sl nx 0 len) (upd H1 nx (.own ⟨el, ye.size⟩ xs)) (nx + 1) := by
  obtain ⟨hzl, hzk, hpos, hsm⟩ := hc
  obtain ⟨i, v, hi, hv, hsz, hby, hCD⟩ := zeroD_sound (S := S) (w := w) V hye hz hzk
  have hvs : v.cells.size = ye.size := by have := hCD.1; simp at this; omega
  have hlen : len ≤ maxLen := by
    have : len * 1 ≤ len * ye.size := Nat.mul_le_mul_left _ hpos
    simp only [maxLen]; omega
  have hR0 := RowL.zeros (n := len) hCD (by omega)
  rw [hvs] at hR0
  obtain ⟨S1, us', hf, hM1, hS1, hR, hxl⟩ := partsD_sound as vs hM hp hR0 h
  simp only [List.length_replicate] at hxl
  have hun : P.underlying t = some (.slice el) := by
    unfold elemT at ht
    split at ht
    · rename_i y hy
      split at ht
      · rename_i e' hd
        cases ht
        exact (V.ty t y hy).1.trans (by rw [hd])
      · cases ht
    · cases ht
  have hrun : (Instr.buildSlice t len vs.toArray).run P w = .ok (.slice (some ⟨w.heap.size, 0, none⟩) len len) (w.alloc (.cells us' el)) := by
    by_cases h0 : len * ye.size = 0
    · have hemp : ∀ f : Nat → Value, (Array.range 0).map f = #[] := fun f => Array.eq_empty_of_size_eq_zero (by simp)
      rw [h0, hemp] at hf
      simp [Instr.buildSlice, run_underlying hun, sizeOf, typeInfo, hi, hsz, h0, hemp, hf, newRow]
    · exact run_buildSlice w t el len vs.toArray us' i v hun hi hv (by rw [hsz]; omega) (by rw [hsz]; omega) (by rw [hsz, hvs]; exact hf)
  refine ⟨.slice (some ⟨w.heap.size, 0, none⟩) len len, w.alloc (.cells us' el), S1, upd B nx (some ⟨w.heap.size, ye.size, len⟩), .inl (by simp [hrun]), ?_, hM1.new hF _ _ ye.size len ?_, hS1, same_alloc hM.lt _, hM.ext_new hF _⟩
  · simpa using AVR.sl (S := S1) (w := w.alloc (.cells us' el)) (B := upd B nx (some ⟨w.heap.size, ye.size, len⟩)) nx 0 len ⟨w.heap.size, ye.size, len⟩ (by simp [upd]) (Nat.zero_le _) (Nat.le_refl _) (.inl rfl) hlen
  · have hs := same_alloc (w := w) hM1.lt (.cells us' el)
    exact .own xs ⟨w.heap.size, ye.size, len⟩ us' el (by simp [upd]) (heap_alloc_new w _) ((hR.mono (fun _ h => h) hs).rowR (p := ⟨w.heap.size, ye.size, len⟩) hxl.symm hlen)

end
end Go.Jv
