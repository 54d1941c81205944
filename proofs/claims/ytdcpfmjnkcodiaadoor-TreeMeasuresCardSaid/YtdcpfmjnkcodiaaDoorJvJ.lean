/- Slices, places, parts. -/
import Derived.Test.YtdcpfmjnkcodiaaDoorJvI
namespace Go.Jv

section
variable {P : Program} {C : Cfg} {S0 L0 : Nat → Prop} {w0 : World} {S : Nat → Prop} {B : Nat → Option Pl} {H : Hs} {F : Nat → Prop} {nx : Nat} {w : World}

theorem run_sizeT (V : Valid P C) {t : TypeId} {n : Nat} (h : sizeT C t = some n) (w : World) : (sizeOf t).run P w = .ok n w := by
  unfold sizeT at h
  obtain ⟨y, hy, rfl⟩ := Option.map_eq_some_iff.1 h
  obtain ⟨_, i, z, hi, hs, _⟩ := V.ty t y hy
  simp [sizeOf, typeInfo, hi, hs]

theorem szIs_sound (hM : Mem C S0 L0 w0 S B H F w) {id : Nat} {n : Option Nat} (h : szIs (H id) n = true) : ∃ z, n = some z ∧ ∀ p, B id = some p → z = p.sz := by
  have hh := hM.homes id
  unfold szIs at h
  split at h
  · rename_i r m hr
    simp only [decide_eq_true_eq] at h
    subst h
    refine ⟨_, rfl, fun p hp => ?_⟩
    cases hH : H id with
    | own y xs =>
      rw [hH] at hr hh
      simp [szOf] at hr
      subst hr
      cases hh with
      | own _ q _ _ hq _ _ => rw [hq] at hp; cases hp; rfl
      | ownz _ hn => rw [hn] at hp; cases hp
    | imm y xs =>
      rw [hH] at hr hh
      simp [szOf] at hr
      subst hr
      cases hh with
      | imm _ q _ _ _ hq _ _ _ => rw [hq] at hp; cases hp; rfl
      | immz _ hn => rw [hn] at hp; cases hp
    | _ => rw [hH] at hr; simp [szOf] at hr
  · cases h

theorem run_sliceAt_of (V : Valid P C) {t e : TypeId} {y : Ty} (hy : C.ty t = some y) (hd : y.desc = .slice e) (x : Value) (lo hi : Option Value) : (Instr.sliceAt t x lo hi none).run P w = (Instr.slice t x lo hi none).run P w := by
  have hu := (V.ty t y hy).1
  rw [hd] at hu
  unfold Instr.sliceAt
  rw [Sem.run_bind, run_underlying hu w, Result.andThen_ok]

theorem run_slice_of (V : Valid P C) {t e : TypeId} {y : Ty} (hy : C.ty t = some y) (hd : y.desc = .slice e) {a : Option Addr} {n cap l h z : Nat} {lo hi : Option Value} (hb : (Instr.sliceBounds true n cap lo hi none).run P w = .ok (l, h, cap) w) (hz : (sizeOf e).run P w = .ok z w) :
    (Instr.sliceAt t (.slice a n cap) lo hi none).run P w = .ok (.slice (if cap = l then a else a.map (·.add (l * z))) (h - l) (cap - l)) w := by
  rw [run_sliceAt_of V hy hd]
  have hu := (V.ty t y hy).1
  rw [hd] at hu
  unfold Instr.slice
  rw [Sem.run_bind, run_underlying hu w, Result.andThen_ok]
  simp [hb, hz]

theorem sliceA_sound (V : Valid P C) (hM : Mem C S0 L0 w0 S B H F w) {t : TypeId} {x r : AV} {v : Value} {lo hi : Option AV} {lv hv : Option Value} (hx : AVR S w B x v)
    (hlo : ∀ a, lo = some a → ∃ v, lv = some v ∧ AVR S w B a v) (hlo0 : lo = none → lv = none) (hhi : ∀ a, hi = some a → ∃ v, hv = some v ∧ AVR S w B a v) (hhi0 : hi = none → hv = none)
    (h : sliceA C H t x lo hi false = some r) : ∃ val, (Instr.sliceAt t v lv hv none).run P w = .ok val w ∧ AVR S w B r val := by
  unfold sliceA at h
  simp only [Bool.false_eq_true, if_false] at h
  cases hy : C.ty t with
  | none => simp [hy] at h
  | some y =>
    simp only [hy] at h
    have hu := (V.ty t y hy).1
    split at h
    · rename_i s hd
      obtain rfl := hx.dV.strV
      obtain ⟨⟨l, h'⟩, e, rfl⟩ := Option.map_eq_some_iff.1 h
      obtain ⟨h1, h2, hb⟩ := loHi_sound (P := P) (w := w) (S := S) (B := B) false hlo hlo0 hhi hhi0 (Nat.le_refl s.size) e
      rw [hd] at hu
      refine ⟨.string (s.extract l h'), ?_, .d _ _ (.str _)⟩
      unfold Instr.sliceAt
      rw [Sem.run_bind, run_underlying hu w, Result.andThen_ok]
      simp only
      unfold Instr.slice
      rw [Sem.run_bind, run_underlying hu w, Result.andThen_ok]
      simp [hb]
    · rename_i el id a b hd
      split at h
      · rename_i hz
        obtain ⟨⟨l, h'⟩, e, rfl⟩ := Option.map_eq_some_iff.1 h
        obtain ⟨z, hsz, hzp⟩ := szIs_sound hM hz
        have hrz := run_sizeT V hsz w
        cases hx with
        | slz =>
          obtain ⟨g1, g2, hb⟩ := loHi_sound (P := P) (w := w) (S := S) (B := B) true hlo hlo0 hhi hhi0 (Nat.le_refl 0) e
          obtain rfl : h' = 0 := by omega
          obtain rfl : l = 0 := by omega
          exact ⟨_, run_slice_of V hy hd hb hrz, by simpa using AVR.slz id⟩
        | sl _ _ _ p hp k1 k2 k3 km =>
          obtain ⟨g1, g2, hb⟩ := loHi_sound (P := P) (w := w) (S := S) (B := B) true hlo hlo0 hhi hhi0 (show b - a ≤ p.cap - a by omega) e
          obtain rfl := hzp p hp
          refine ⟨_, run_slice_of V hy hd hb hrz, ?_⟩
          by_cases hc : p.cap - a = l
          · rw [if_pos hc]
            have hl : h' = l := by omega
            subst hl
            by_cases h0 : a + h' = 0
            · have ha : a = 0 := by omega
              have hh : h' = 0 := by omega
              subst ha; subst hh
              have := AVR.sl (S := S) (w := w) (B := B) id 0 0 p hp (Nat.le_refl _) (Nat.zero_le _) (.inl rfl) km
              simpa using this
            · have := AVR.sle (S := S) (w := w) (B := B) id (a + h') (a * p.sz) (p.cap - a - h') p hp (by omega) (by omega)
              simpa using this
          · rw [if_neg hc]
            have := AVR.sl (S := S) (w := w) (B := B) id (a + l) (a + h') p hp (by omega) (by omega) (.inr (by omega)) km
            have e1 : a + h' - (a + l) = h' - l := by omega
            have e2 : p.cap - (a + l) = p.cap - a - l := by omega
            rw [e1, e2, Nat.add_mul] at this
            simpa [Addr.add_mid] using this
        | sle _ _ off c p hp k1 km =>
          obtain ⟨g1, g2, hb⟩ := loHi_sound (P := P) (w := w) (S := S) (B := B) true hlo hlo0 hhi hhi0 (show a - a ≤ c by omega) e
          obtain rfl : h' = 0 := by omega
          obtain rfl : l = 0 := by omega
          have hb' : (Instr.sliceBounds true 0 c lv hv none).run P w = .ok (0, 0, c) w := by simpa using hb
          refine ⟨_, run_slice_of V hy hd hb' hrz, ?_⟩
          have := AVR.sle (S := S) (w := w) (B := B) id a off c p hp k1 km
          by_cases hc : c = 0
          · simpa [hc] using this
          · simpa [hc, Addr.add_mid] using this
      · cases h
    · rename_i el hd
      split at h
      · rename_i hsome
        obtain ⟨z, hz⟩ := Option.isSome_iff_exists.1 hsome
        obtain ⟨⟨l, h'⟩, e, rfl⟩ := Option.map_eq_some_iff.1 h
        cases hx
        obtain ⟨g1, g2, hb⟩ := loHi_sound (P := P) (w := w) (S := S) (B := B) true hlo hlo0 hhi hhi0 (Nat.le_refl 0) e
        obtain rfl : h' = 0 := by omega
        obtain rfl : l = 0 := by omega
        exact ⟨_, run_slice_of V hy hd hb (run_sizeT V hz w), by simpa using AVR.nil⟩
      · cases h
    · rename_i el xs hd
      split at h
      · rename_i l h' z e hz
        split at h
        · rename_i hall
          cases h
          have hrz := run_sizeT V hz w
          cases hx with
          | d _ _ hx =>
            cases hx with
            | nil =>
              obtain ⟨g1, g2, hb⟩ := loHi_sound (P := P) (w := w) (S := S) (B := B) true hlo hlo0 hhi hhi0 (Nat.le_refl 0) e
              obtain rfl : h' = 0 := by omega
              obtain rfl : l = 0 := by omega
              exact ⟨_, run_slice_of V hy hd hb hrz, by simpa [win] using AVR.d _ _ VR.nil⟩
            | emp a cap hm =>
              obtain ⟨g1, g2, hb⟩ := loHi_sound (P := P) (w := w) (S := S) (B := B) (cap := cap) true hlo hlo0 hhi hhi0 (Nat.zero_le _) e
              obtain rfl : h' = 0 := by omega
              obtain rfl : l = 0 := by omega
              refine ⟨_, run_slice_of V hy hd hb hrz, ?_⟩
              have : ∃ a' : Addr, (if cap = 0 then some a else (some a).map (·.add (0 * z))) = some a' := by split <;> exact ⟨_, rfl⟩
              obtain ⟨a', ha'⟩ := this
              rw [ha']
              exact .d _ _ (.emp a' cap hm)
            | lst _ b off cap sz us hS hl hm hzz hc ho hv =>
              obtain ⟨g1, g2, hb⟩ := loHi_sound (P := P) (w := w) (S := S) (B := B) true hlo hlo0 hhi hhi0 hl e
              refine ⟨_, run_slice_of V hy hd hb hrz, ?_⟩
              have hwl := win_length g1 g2
              have hoff : ∃ off', (if cap = l then some (⟨b, off, none⟩ : Addr) else (some (⟨b, off, none⟩ : Addr)).map (·.add (l * z))) = some ⟨b, off', none⟩ ∧ (off' = off + l * sz ∨ l = h') := by
                by_cases hcl : cap = l
                · exact ⟨off, by simp [hcl], .inr (by omega)⟩
                · refine ⟨off + l * z, by simp [hcl, Addr.add_mid], ?_⟩
                  by_cases hl0 : l = 0
                  · left; subst hl0; omega
                  · rcases hall with hall | hall
                    · exact absurd hall hl0
                    · left
                      have h0 : 0 < xs.length := by omega
                      have hx0 : xs[0]? = some xs[0] := List.getElem?_eq_getElem h0
                      have e1 := hzz 0 _ hx0
                      have e2 : xs[0].cells.length = z := by simpa using (List.all_eq_true.1 hall) xs[0] (List.getElem_mem h0)
                      rw [← e1, e2]
              obtain ⟨off', ho1, ho2⟩ := hoff
              rw [ho1, ← hwl]
              refine .d _ _ (.lst (win xs l h') b off' (cap - l) sz (fun i j => us (l + i) j) hS (by omega) (by omega) ?_ ?_ ?_ ?_)
              · intro i x hx; exact hzz _ x (win_get hx).1
              · intro i j hi hj
                have hlt : i < h' - l := by omega
                have e1 : off' = off + l * sz := by rcases ho2 with h | h <;> omega
                have := hc (l + i) j (by omega) hj
                rw [← this, e1]
                congr 2
                rw [Nat.add_mul]; omega
              · intro i j hi hj; exact ho _ _ (by omega) hj
              · intro i x j c hx hj; exact hv _ x j c (win_get hx).1 hj
        · cases h
      · cases h
    · cases h

theorem run_indexAt_slice (V : Valid P C) {t e : TypeId} {y : Ty} (hy : C.ty t = some y) (hd : y.desc = .slice e) {z : Nat} (hz : sizeT C e = some z) {b o n cap : Nat} {k : IntKind} {i : Int} (h0 : 0 ≤ i) (h1 : i < n) :
    (Instr.indexAt t (.slice (some ⟨b, o, none⟩) n cap) (.int k i)).run P w = .ok (.pointer (some ⟨b, o + i.toNat * z, none⟩)) w := by
  have hu := (V.ty t y hy).1
  rw [hd] at hu
  unfold Instr.indexAt
  simp only [asIntOf, pure_bind, Sem.run_bind, run_underlying hu w, Result.andThen_ok]
  simp [h0, h1, run_sizeT V hz, Addr.add_mid]

theorem run_indexAt_array (V : Valid P C) {t e : TypeId} {y : Ty} {n : Nat} (hy : C.ty t = some y) (hd : y.desc = .array n e) {z : Nat} (hz : sizeT C e = some z) {b o : Nat} {k : IntKind} {i : Int} (h0 : 0 ≤ i) (h1 : i < n) :
    (Instr.indexAt t (.pointer (some ⟨b, o, none⟩)) (.int k i)).run P w = .ok (.pointer (some ⟨b, o + i.toNat * z, none⟩)) w := by
  have hu := (V.ty t y hy).1
  rw [hd] at hu
  unfold Instr.indexAt
  simp only [asIntOf, pure_bind, Sem.run_bind, run_underlying hu w, Result.andThen_ok]
  simp [h0, h1, run_sizeT V hz, Addr.add_mid, Instr.sureAddr, run_underlying hu w]

theorem intOfA_sound {a : AV} {n : Int} {u : Value} (ha : AVR S w B a u) (h : intOfA a = some n) : ∃ k, u = .int k n := by
  unfold intOfA at h
  split at h
  · rename_i k m; cases h; exact ⟨k, ha.dV.intV⟩
  · cases h

/-- a piece of what is read -/
theorem VR.ptrDrop {cs : List Dat} {b off : Nat} (h : VR S w (.ptr cs) (.pointer (some ⟨b, off, none⟩))) (k : Nat) : VR S w (.ptr (cs.drop k)) (.pointer (some ⟨b, off + k, none⟩)) := by
  cases h with
  | ptr _ _ _ us hS hc ho hv =>
    refine .ptr _ b (off + k) (fun j => us (k + j)) hS (fun j hj => ?_) (fun j hj => ?_) (fun j c hj => ?_)
    · rw [← hc (k + j) (by simp at hj; omega), Nat.add_assoc]
    · exact ho _ (by simp at hj; omega)
    · exact hv _ c (by simpa [List.getElem?_drop] using hj)

theorem indexAddrA_sound (V : Valid P C) (hM : Mem C S0 L0 w0 S B H F w) {t : TypeId} {x i r : AV} {v iv : Value} (hx : AVR S w B x v) (hi : AVR S w B i iv) (h : indexAddrA C H t x i = some r) :
    ∃ val, (Instr.indexAt t v iv).run P w = .ok val w ∧ AVR S w B r val := by
  unfold indexAddrA at h
  cases hn : intOfA i with
  | none => simp [hn] at h
  | some n =>
    simp only [hn] at h
    obtain ⟨k, rfl⟩ := intOfA_sound hi hn
    split at h
    · cases h
    · rename_i hneg
      have h0 : 0 ≤ n := by omega
      cases he : elemT C t with
      | some el =>
        simp only [he] at h
        obtain ⟨y, hy, hd⟩ : ∃ y, C.ty t = some y ∧ y.desc = .slice el := by
          unfold elemT at he
          cases hy : C.ty t with
          | none => simp [hy] at he
          | some y => simp only [hy] at he; split at he <;> simp_all
        split at h
        · rename_i id lo hi'
          split at h
          · rename_i hc
            cases h
            obtain ⟨z, hsz, hzp⟩ := szIs_sound hM hc.2
            cases hx with
            | slz => have := hc.1; omega
            | sl _ _ _ p hp k1 k2 k3 km =>
              obtain rfl := hzp p hp
              refine ⟨_, run_indexAt_slice V hy hd hsz h0 hc.1, ?_⟩
              have := AVR.pe (S := S) (w := w) (B := B) id (lo + n.toNat) 0 p hp
              rw [Nat.add_mul, Nat.add_zero] at this
              exact this
            | sle => have := hc.1; omega
          · cases h
        · rename_i xs
          split at h
          · rename_i y1 hy1
            split at h
            · rename_i hz
              cases h
              have hlt : n.toNat < xs.length := (List.getElem?_eq_some_iff.1 hy1).1
              cases hx with
              | d _ _ hx =>
                cases hx with
                | nil => simp at hy1
                | emp => simp at hy1
                | lst _ b off cap sz us hS hl hm hzz hc ho hv =>
                  refine ⟨_, run_indexAt_slice V hy hd hz h0 (by omega), ?_⟩
                  have e1 := hzz _ _ hy1
                  refine .d _ _ (.ptr y1.cells b _ (fun j => us n.toNat j) hS (fun j hj => ?_) (fun j hj => ho _ _ hlt (by omega)) (fun j c hj => hv _ y1 j c hy1 hj))
                  rw [← hc n.toNat j hlt (by omega), e1, Nat.add_assoc]
            · cases h
          · cases h
        · cases h
      | none =>
        simp only [he] at h
        cases ha : arrT C t with
        | none => simp [ha] at h
        | some r0 =>
          obtain ⟨len, e⟩ := r0
          simp only [ha] at h
          obtain ⟨y, hy, hd⟩ : ∃ y, C.ty t = some y ∧ y.desc = .array len e := by
            unfold arrT at ha
            cases hy : C.ty t with
            | none => simp [hy] at ha
            | some y => simp only [hy] at ha; split at ha <;> simp_all
          split at h
          · rename_i z hz
            split at h
            · rename_i hlt
              split at h
              · rename_i id off
                cases h
                cases hx with
                | pt _ _ p hp => exact ⟨_, run_indexAt_array V hy hd hz h0 hlt, .pt id _ p hp⟩
              · rename_i id i' j
                cases h
                cases hx with
                | pe _ _ _ p hp =>
                  refine ⟨_, run_indexAt_array V hy hd hz h0 hlt, ?_⟩
                  have := AVR.pe (S := S) (w := w) (B := B) id i' (j + n.toNat * z) p hp
                  rwa [← Nat.add_assoc] at this
              · rename_i cs
                cases h
                cases hx with
                | d _ _ hx =>
                  cases hx with
                  | ptr _ b off us hS hc ho hv =>
                    exact ⟨_, run_indexAt_array V hy hd hz h0 hlt, .d _ _ (VR.ptrDrop (.ptr cs b off us hS hc ho hv) _)⟩
              · cases h
            · cases h
          · cases h

/-- a part of a struct's or an array's value -/
theorem run_part (V : Valid P C) {t : TypeId} {n : Nat} {g : Bool} (hn : sizeT C t = some n) (hg : aggT C t = some g) {vs : Array Value} {off : Nat} (hle : off + n ≤ vs.size) {u : Value} (hu : mkV g ((vs.toList.drop off).take n) = some u) :
    (part t vs off).run P w = .ok u w := by
  unfold aggT at hg
  obtain ⟨y, hy, hgy⟩ := Option.map_eq_some_iff.1 hg
  have hund := (V.ty t y hy).1
  have ha : (Go.isAgg t).run P w = .ok g w := by
    unfold Go.isAgg
    rw [Sem.run_bind, run_underlying hund w, Result.andThen_ok, ← hgy]
    cases y.desc <;> rfl
  unfold part
  rw [Sem.run_bind, ha, Result.andThen_ok]
  cases g with
  | true =>
    simp only [mkV, if_true] at hu
    cases hu
    simp only [if_true]
    simp [run_sizeT V hn]
    apply Array.ext'
    simp [Array.toList_extract]
  | false =>
    simp only [mkV] at hu
    simp only [Bool.false_eq_true, if_false]
    have hl : ((vs.toList.drop off).take n).length = n := by simp; omega
    match hm : (vs.toList.drop off).take n, hu with
    | [x], hu =>
      have e : x = u := by simpa using hu
      subst e
      have hn1 : n = 1 := by rw [hm] at hl; simpa using hl.symm
      subst hn1
      have hx : vs[off]? = some x := by
        have h1 : ((vs.toList.drop off).take 1)[0]? = some x := by rw [hm]; rfl
        simpa [List.getElem?_take, List.getElem?_drop] using h1
      rw [hx]; rfl
    | [], hu => simp at hu
    | _ :: _ :: _, hu => simp at hu

theorem part_sound (V : Valid P C) {t : TypeId} {n : Nat} {g : Bool} (hn : sizeT C t = some n) (hg : aggT C t = some g) {x r : AV} {v : Value} (hx : AVR S w B x v) {off : Nat}
    (h : partA x off n g = some r) :
    ∃ vs, v = .agg vs ∧ ∃ val, (part t vs off).run P w = .ok val w ∧ AVR S w B r val := by
  unfold partA at h
  cases x with
  | agg cs =>
    simp only at h
    cases hx with
    | agg _ vs hl ho hv =>
      obtain ⟨ds, hd, hmk⟩ := Option.bind_eq_some_iff.1 h
      have hC : CellsA S w B cs vs.toList := ⟨by simpa using hl, fun j c u hj hu => ⟨ho u (Array.mem_of_getElem? (by simpa using hu)), hv j c u hj (by simpa using hu)⟩⟩
      obtain ⟨hcut, hn', hle⟩ := hC.cut hd
      obtain ⟨u, hu, hR⟩ := hcut.mk hmk
      exact ⟨vs, rfl, u, run_part V hn hg (by omega) hu, hR⟩
  | d x0 =>
    cases x0 <;> simp only [reduceCtorEq] at h
    rename_i cs
    cases hx with
    | d _ _ hx =>
      cases hx with
      | agg _ vs hl ho hv =>
        obtain ⟨x', hx', rfl⟩ := Option.map_eq_some_iff.1 h
        obtain ⟨ds, hd, hmk⟩ := Option.bind_eq_some_iff.1 hx'
        have hC : CellsD S w cs vs.toList := ⟨by simpa using hl, fun j c u hj hu => ⟨ho u (Array.mem_of_getElem? (by simpa using hu)), hv j c u hj (by simpa using hu)⟩⟩
        obtain ⟨hcut, hn', hle⟩ := hC.cut hd
        obtain ⟨u, hu, hR⟩ := hcut.mk hmk
        exact ⟨vs, rfl, u, run_part V hn hg (by omega) hu, .d _ _ hR⟩
  | _ => simp at h

end
end Go.Jv
