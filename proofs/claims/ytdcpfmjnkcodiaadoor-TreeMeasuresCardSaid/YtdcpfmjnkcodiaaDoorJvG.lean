/- The operations that write cells, lay variables, build values. -/
import Derived.Test.YtdcpfmjnkcodiaaDoorJvF
namespace Go.Jv

section
variable {P : Program} {C : Cfg} {S0 L0 : Nat → Prop} {w0 : World} {S : Nat → Prop} {B : Nat → Option Pl} {H : Hs} {F : Nat → Prop} {nx : Nat} {w : World}

theorem oneCell_cells {v : Value} (h : v.oneCell' = true) : v.cells = #[v] := by
  cases v <;> simp_all [Value.oneCell', Value.cells]

theorem VR.cellsOk {x : Dat} {v : Value} (h : VR S w x v) (hk : (x.cells.map AV.d).all okC = true) : CellsD S w x.cells v.cells.toList := by
  cases h with
  | agg cs vs hl ho hv =>
    refine ⟨by simp [Dat.cells, Value.cells, hl], fun j c u hj hu => ?_⟩
    have hu' : vs[j]? = some u := by simpa [Value.cells] using hu
    exact ⟨ho u (Array.mem_of_getElem? hu'), hv j c u hj hu'⟩
  | cst v h =>
    rw [oneCell_cells h]
    refine ⟨rfl, fun j c u hj hu => ?_⟩
    match j with
    | 0 =>
      simp only [Dat.cells, List.getElem?_cons_zero, Option.some.injEq] at hj hu
      subst hj; subst hu
      exact ⟨h, .cst v h⟩
    | j + 1 => simp [Dat.cells] at hj
  | _ =>
    refine ⟨rfl, fun j c u hj hu => ?_⟩
    match j with
    | 0 =>
      simp only [Dat.cells, Value.cells, List.getElem?_cons_zero, Option.some.injEq] at hj hu
      first
        | (subst hj; subst hu; exact ⟨by first | rfl | assumption, by constructor <;> assumption⟩)
        | (subst hj; subst hu; exact ⟨by first | rfl | assumption, by constructor⟩)
    | j + 1 => simp [Dat.cells] at hj

theorem AVR.cellsOk {x : AV} {v : Value} (h : AVR S w B x v) (hk : x.cells.all okC = true) : CellsA S w B x.cells v.cells.toList := by
  cases h with
  | agg cs vs hl ho hv =>
    refine ⟨by simp [AV.cells, Value.cells, hl], fun j c u hj hu => ?_⟩
    have hu' : vs[j]? = some u := by simpa [Value.cells] using hu
    exact ⟨ho u (Array.mem_of_getElem? hu'), hv j c u hj hu'⟩
  | d x v h =>
    have := h.cellsOk hk
    refine ⟨by simp [AV.cells, this.1], fun j c u hj hu => ?_⟩
    simp only [AV.cells, List.getElem?_map, Option.map_eq_some_iff] at hj
    obtain ⟨c', hc', rfl⟩ := hj
    obtain ⟨h1, h2⟩ := this.2 j c' u hc' hu
    exact ⟨h1, .d _ _ h2⟩
  | tup => simp [AV.cells, okC] at hk
  | undef => simp [AV.cells, okC] at hk
  | bad => simp [AV.cells, okC] at hk
  | nil =>
    refine ⟨rfl, fun j c u hj hu => ?_⟩
    match j with
    | 0 => simp [AV.cells, Value.cells] at hj hu; subst hj; subst hu; exact ⟨rfl, .nil⟩
    | j + 1 => simp [AV.cells] at hj
  | slz id =>
    refine ⟨rfl, fun j c u hj hu => ?_⟩
    match j with
    | 0 => simp [AV.cells, Value.cells] at hj hu; subst hj; subst hu; exact ⟨rfl, .slz id⟩
    | j + 1 => simp [AV.cells] at hj
  | sl id lo hi p hp h1 h2 h3 hm =>
    refine ⟨rfl, fun j c u hj hu => ?_⟩
    match j with
    | 0 => simp [AV.cells, Value.cells] at hj hu; subst hj; subst hu; exact ⟨rfl, .sl id lo hi p hp h1 h2 h3 hm⟩
    | j + 1 => simp [AV.cells] at hj
  | sle id lo off c p hp h hm =>
    refine ⟨rfl, fun j c u hj hu => ?_⟩
    match j with
    | 0 => simp [AV.cells, Value.cells] at hj hu; subst hj; subst hu; exact ⟨rfl, .sle id lo off _ p hp h hm⟩
    | j + 1 => simp [AV.cells] at hj
  | pt id off p hp =>
    refine ⟨rfl, fun j c u hj hu => ?_⟩
    match j with
    | 0 => simp [AV.cells, Value.cells] at hj hu; subst hj; subst hu; exact ⟨rfl, .pt id off p hp⟩
    | j + 1 => simp [AV.cells] at hj
  | pe id i k p hp =>
    refine ⟨rfl, fun j c u hj hu => ?_⟩
    match j with
    | 0 => simp [AV.cells, Value.cells] at hj hu; subst hj; subst hu; exact ⟨rfl, .pe id i k p hp⟩
    | j + 1 => simp [AV.cells] at hj
  | fn f cs vs hl hv =>
    refine ⟨rfl, fun j c u hj hu => ?_⟩
    match j with
    | 0 => simp [AV.cells, Value.cells] at hj hu; subst hj; subst hu; exact ⟨rfl, .fn f cs vs hl hv⟩
    | j + 1 => simp [AV.cells] at hj

/-- the real store of cells into a block -/
theorem run_store_cells (V : Valid P C) {t : TypeId} {y : Ty} (hy : C.ty t = some y) {b o : Nat} {arr : Array Value} {e : TypeId} (hb : w.heap[b]? = some (.cells arr e (0, 0)))
    {v : Value} (hl : v.cells.size = y.size) (hfit : o + y.size ≤ arr.size) (h1 : ∀ u ∈ v.cells.toList, u.oneCell' = true) :
    (Instr.storeAt t (.pointer (some ⟨b, o, none⟩)) v).run P w = .ok () (w.setRow b (putA arr.toList o v.cells.toList).toArray) := by
  obtain ⟨hu, i, z, hi, hsz, _⟩ := V.ty t y hy
  have hst := run_storeCells_at (P := P) b o e v.cells.toList 0 arr w hb (by simp; omega) h1
  simp only [Nat.add_zero] at hst
  have hs : v.cells.size = i.size := by omega
  simp [Instr.storeAt, Instr.sureAddr, storeVar, sizeOf, typeInfo, hi, hs, hst, putA]

theorem putA_length {α : Type} (cs : List α) (off : Nat) (new : List α) (h : off + new.length ≤ cs.length) : (putA cs off new).length = cs.length := by
  simp [putA]; omega
theorem putA_get {α : Type} (cs : List α) (off : Nat) (new : List α) (h : off + new.length ≤ cs.length) (j : Nat) :
    (putA cs off new)[j]? = if j < off then cs[j]? else if j < off + new.length then new[j - off]? else cs[j]? := by
  unfold putA
  by_cases h1 : j < off
  · rw [if_pos h1, List.append_assoc, List.getElem?_append_left (by simp; omega), List.getElem?_take, if_pos h1]
  · rw [if_neg h1]
    by_cases h2 : j < off + new.length
    · rw [if_pos h2, List.getElem?_append_left (by simp; omega), List.getElem?_append_right (by simp; omega)]
      congr 1
      simp; omega
    · rw [if_neg h2, List.getElem?_append_right (by simp; omega), List.getElem?_drop]
      congr 1
      simp; omega

theorem CellsA.put {cs new : List AV} {us vs : List Value} (h : CellsA S w B cs us) (hn : CellsA S w B new vs) (off : Nat) (hle : off + new.length ≤ cs.length) : CellsA S w B (putA cs off new) (putA us off vs) := by
  have h1 := h.1
  have h2 := hn.1
  refine ⟨by rw [putA_length _ _ _ hle, putA_length _ _ _ (by omega), h1], fun j c u hj hu => ?_⟩
  rw [putA_get _ _ _ hle] at hj
  rw [putA_get _ _ _ (by omega)] at hu
  by_cases a : j < off
  · rw [if_pos a] at hj hu; exact h.2 j c u hj hu
  · rw [if_neg a] at hj hu
    by_cases b : j < off + new.length
    · rw [if_pos b] at hj; rw [if_pos (by omega)] at hu; exact hn.2 _ c u hj hu
    · rw [if_neg b] at hj; rw [if_neg (by omega)] at hu; exact h.2 j c u hj hu
theorem CellsD.put {cs new : List Dat} {us vs : List Value} (h : CellsD S w cs us) (hn : CellsD S w new vs) (off : Nat) (hle : off + new.length ≤ cs.length) : CellsD S w (putA cs off new) (putA us off vs) := by
  have h1 := h.1
  have h2 := hn.1
  refine ⟨by rw [putA_length _ _ _ hle, putA_length _ _ _ (by omega), h1], fun j c u hj hu => ?_⟩
  rw [putA_get _ _ _ hle] at hj
  rw [putA_get _ _ _ (by omega)] at hu
  by_cases a : j < off
  · rw [if_pos a] at hj hu; exact h.2 j c u hj hu
  · rw [if_neg a] at hj hu
    by_cases b : j < off + new.length
    · rw [if_pos b] at hj; rw [if_pos (by omega)] at hu; exact hn.2 _ c u hj hu
    · rw [if_neg b] at hj; rw [if_neg (by omega)] at hu; exact h.2 j c u hj hu

theorem CellsA.mono {S' : Nat → Prop} {w' : World} {B' : Nat → Option Pl} {cs : List AV} {us : List Value} (h : CellsA S w B cs us) (hS : ∀ b, S b → S' b) (hw : Same S w w') (hB : Ext B B') : CellsA S' w' B' cs us :=
  ⟨h.1, fun j c u hj hu => ⟨(h.2 j c u hj hu).1, (h.2 j c u hj hu).2.mono hS hw hB⟩⟩
theorem CellsD.mono {S' : Nat → Prop} {w' : World} {cs : List Dat} {us : List Value} (h : CellsD S w cs us) (hS : ∀ b, S b → S' b) (hw : Same S w w') : CellsD S' w' cs us :=
  ⟨h.1, fun j c u hj hu => ⟨(h.2 j c u hj hu).1, (h.2 j c u hj hu).2.mono hS hw⟩⟩

theorem HR.mkBox {id : Nat} {cs : List AV} {p : Pl} {arr : Array Value} {e : TypeId} (hp : B id = some p) (hb : w.heap[p.blk]? = some (.cells arr e (0, 0))) (hc : CellsA S w B cs arr.toList) : HR S w B id (.box cs) := by
  refine .box cs p arr e hp hb (by simpa using hc.1.symm) fun j c hj => ?_
  have hjl : j < arr.size := by
    have := (List.getElem?_eq_some_iff.1 hj).1
    have := hc.1
    simp at this; omega
  have hu : arr.toList[j]? = some arr[j] := by simp [hjl]
  exact ⟨arr[j], by simp [hjl], (hc.2 j c _ hj hu).1, (hc.2 j c _ hj hu).2⟩

theorem same_setRow {b : Nat} (hb : ¬ S b) (cs : Array Value) : Same S w (w.setRow b cs) := fun k hk => setRow_other w b k cs (fun e => hb (e ▸ hk))

/-- one home's cells are written over -/
theorem Mem.setBox (hM : Mem C S0 L0 w0 S B H F w) {id : Nat} {cs : List AV} (hH : H id = .box cs) {p : Pl} {arr : Array Value} {e : TypeId} (hp : B id = some p) (hb : w.heap[p.blk]? = some (.cells arr e (0, 0)))
    {cs' : List AV} {arr' : Array Value} (hc : CellsA S w B cs' arr'.toList) : Mem C S0 L0 w0 S B (upd H id (.box cs')) F (w.setRow p.blk arr') := by
  have hl : (H id).live = true := by rw [hH]; rfl
  have hoff := hM.off id p hl hp
  exact hM.write id p hl hp (.box cs') rfl rfl rfl (by simp) (fun b hb' => setRow_other w _ _ _ hb') rfl
    (HR.mkBox hp (setRow_heap w _ arr arr' e (0, 0) hb) (hc.mono (fun _ h => h) (same_setRow hoff arr') (Ext.refl _)))

theorem row_set {p : Pl} {arr : Array Value} {xs : List Dat} (h : RowR S w p arr xs) {i : Nat} {x y : Dat} (hx : xs[i]? = some x) {us : List Value} (hy : CellsD S w y.cells us) (hl : y.cells.length = p.sz) :
    RowR S w p (putA arr.toList (i * p.sz) us).toArray (xs.set i y) := by
  obtain ⟨he, hz, hle⟩ := h.elem hx
  have hi : i < xs.length := (List.getElem?_eq_some_iff.1 hx).1
  have hul : us.length = p.sz := by rw [← hy.1, hl]
  have hfit : i * p.sz + us.length ≤ arr.toList.length := by simp; omega
  refine ⟨by simp only [List.size_toArray]; rw [putA_length _ _ _ hfit]; simpa using h.1, by simpa using h.2.1, h.2.2.1, ?_, ?_⟩
  · intro k z hk
    by_cases e : i = k
    · subst e; rw [List.getElem?_set_self hi] at hk; cases hk; exact hl
    · rw [List.getElem?_set_ne e] at hk; exact h.2.2.2.1 k z hk
  · intro k z j c hk hj
    have hjl : j < p.sz := by
      have := (List.getElem?_eq_some_iff.1 hj).1
      by_cases e : i = k
      · subst e; rw [List.getElem?_set_self hi] at hk; cases hk; omega
      · rw [List.getElem?_set_ne e] at hk; have := h.2.2.2.1 k z hk; omega
    rw [List.getElem?_toArray, putA_get _ _ _ hfit]
    by_cases e : i = k
    · subst e
      rw [List.getElem?_set_self hi] at hk
      cases hk
      rw [if_neg (by omega), if_pos (by omega), show i * p.sz + j - i * p.sz = j by omega]
      have hju : j < us.length := by omega
      have := hy.2 j c _ hj (List.getElem?_eq_getElem hju)
      exact ⟨us[j], List.getElem?_eq_getElem hju, this.1, this.2⟩
    · rw [List.getElem?_set_ne e] at hk
      obtain ⟨u, h1, h2, h3⟩ := h.2.2.2.2 k z j c hk hj
      refine ⟨u, ?_, h2, h3⟩
      have hne : ¬ (i * p.sz ≤ k * p.sz + j ∧ k * p.sz + j < i * p.sz + us.length) := by
        rintro ⟨a1, a2⟩
        rcases Nat.lt_or_gt_of_ne e with hlt | hlt
        · have : (i + 1) * p.sz ≤ k * p.sz := Nat.mul_le_mul_right _ hlt
          rw [Nat.succ_mul] at this; omega
        · have : (k + 1) * p.sz ≤ i * p.sz := Nat.mul_le_mul_right _ hlt
          rw [Nat.succ_mul] at this; omega
      by_cases a1 : k * p.sz + j < i * p.sz
      · rw [if_pos a1]; simpa using h1
      · rw [if_neg a1, if_neg (by omega)]; simpa using h1

theorem putA_putA {α : Type} (l : List α) (a j : Nat) (m : List α) (n : Nat) (hj : j + m.length ≤ n) (hn : a + n ≤ l.length) : putA l a (putA ((l.drop a).take n) j m) = putA l (a + j) m := by
  have hlen : ((l.drop a).take n).length = n := by simp; omega
  apply List.ext_getElem?
  intro k
  have hin : (putA ((l.drop a).take n) j m).length = n := by rw [putA_length _ _ _ (by omega), hlen]
  rw [putA_get l a (putA ((l.drop a).take n) j m) (by omega), putA_get l (a + j) m (by omega)]
  by_cases h1 : k < a
  · rw [if_pos h1, if_pos (by omega)]
  · rw [if_neg h1, hin]
    by_cases h2 : k < a + n
    · rw [if_pos h2, putA_get ((l.drop a).take n) j m (by omega)]
      by_cases h3 : k - a < j
      · rw [if_pos h3]
        rw [if_pos (show k < a + j by omega), List.getElem?_take, if_pos (show k - a < n by omega), List.getElem?_drop, show a + (k - a) = k by omega]
      · rw [if_neg h3]
        rw [if_neg (show ¬ k < a + j by omega)]
        by_cases h4 : k - a < j + m.length
        · rw [if_pos h4]
          rw [if_pos (show k < a + j + m.length by omega), show k - a - j = k - (a + j) by omega]
        · rw [if_neg h4]
          rw [if_neg (show ¬ k < a + j + m.length by omega), List.getElem?_take, if_pos (show k - a < n by omega), List.getElem?_drop, show a + (k - a) = k by omega]
    · rw [if_neg h2, if_neg (by omega), if_neg (by omega)]

theorem Mem.setOwn (hM : Mem C S0 L0 w0 S B H F w) {id : Nat} {z : Row} {xs : List Dat} (hH : H id = .own z xs) {p : Pl} {arr : Array Value} {e : TypeId} (hp : B id = some p) (hb : w.heap[p.blk]? = some (.cells arr e (0, 0)))
    {xs' : List Dat} {arr' : Array Value} (hr : RowR S w p arr' xs') : Mem C S0 L0 w0 S B (upd H id (.own ⟨e, p.sz⟩ xs')) F (w.setRow p.blk arr') := by
  have hl : (H id).live = true := by rw [hH]; rfl
  have hoff := hM.off id p hl hp
  exact hM.write id p hl hp (.own ⟨e, p.sz⟩ xs') rfl rfl rfl (by simp) (fun b hb' => setRow_other w _ _ _ hb') rfl
    (.own xs' p arr' e hp (setRow_heap w _ arr arr' e (0, 0) hb) (hr.mono (fun _ h => h) (same_setRow hoff arr')))

theorem datA_sound {v : AV} {x : Dat} {val : Value} (h : AVR S w B v val) (hx : datA v = some x) : VR S w x val := by
  have key : ∀ (cs : List AV) (xs : List Dat), seeAll (fun | .d x => some x | .nil => some (.lst []) | _ => none) cs = some xs → cs.length = xs.length ∧ ∀ (j : Nat) c u, xs[j]? = some c → (∀ a, cs[j]? = some a → AVR S w B a u) → VR S w c u := by
    intro cs
    induction cs with
    | nil => intro xs hxs; simp [seeAll] at hxs; subst hxs; exact ⟨rfl, fun j c u hj _ => by simp at hj⟩
    | cons a cs ih =>
      intro xs hxs
      simp only [seeAll] at hxs
      split at hxs
      · rename_i x0 xs0 h1 h2
        cases hxs
        obtain ⟨hl, hv⟩ := ih xs0 h2
        refine ⟨by simp [hl], fun j c u hj hu => ?_⟩
        match j with
        | 0 =>
          simp only [List.getElem?_cons_zero, Option.some.injEq] at hj
          subst hj
          have ha := hu a rfl
          cases a <;> simp at h1
          · subst h1; cases ha with | d _ _ ha => exact ha
          · subst h1; cases ha; exact .nil
        | j + 1 => exact hv j c u (by simpa using hj) (fun a' ha' => hu a' (by simpa using ha'))
      · cases hxs
  cases v with
  | d x0 => simp [datA] at hx; subst hx; cases h with | d _ _ h => exact h
  | nil => simp [datA] at hx; subst hx; cases h; exact .nil
  | agg cs =>
    simp only [datA, Option.map_eq_some_iff] at hx
    obtain ⟨xs, hxs, rfl⟩ := hx
    cases h with
    | agg _ vs hl ho hv =>
      obtain ⟨hl', hk⟩ := key cs xs hxs
      refine .agg xs vs (by omega) ho (fun j c u hj hu => hk j c u hj (fun a ha => hv j a u ha hu))
  | _ => simp [datA] at hx

theorem store_sound (V : Valid P C) (hM : Mem C S0 L0 w0 S B H F w) {t : TypeId} {p v : AV} {pv val : Value} (hp : AVR S w B p pv) (hv : AVR S w B v val) {H1 : Hs} (h : storeA C H t p v = some H1) :
    ∃ w1, (Instr.storeAt t pv val).run P w = .ok () w1 ∧ Mem C S0 L0 w0 S B H1 F w1 ∧ Same S w w1 := by
  unfold storeA sizeT at h
  cases hy : C.ty t with
  | none => simp [hy] at h
  | some y =>
    simp only [hy, Option.map_some] at h
    cases p with
    | pt id off =>
      cases hp with
      | pt _ _ q hq =>
        have hh := hM.homes id
        cases hH : H id with
        | box cs =>
          simp only [hH] at h hh
          split at h
          · rename_i hc
            obtain ⟨hl, hk, hle⟩ := hc
            cases h
            obtain ⟨q', arr, e, hq', hb, hcs⟩ := hh.boxCells
            obtain rfl : q' = q := by rw [hq'] at hq; exact Option.some.inj hq
            have hcv := hv.cellsOk hk
            have hlen := hcs.1
            refine ⟨_, run_store_cells V hy hb (by have := hcv.1; simp at this; omega) (by simp at hlen; omega) hcv.one, ?_, ?_⟩
            · exact hM.setBox hH hq hb (by simpa using hcs.put hcv off (by omega))
            · exact same_setRow (hM.off id _ (by rw [hH]; rfl) hq) _
          · cases h
        | _ => simp [hH] at h
    | pe id i j =>
      cases hp with
      | pe _ _ _ q hq =>
        have hh := hM.homes id
        cases hx : datA v with
        | none => simp [hx] at h
        | some x =>
          cases hH : H id with
          | own z xs =>
            simp only [hH, hx] at h hh
            cases hy0 : xs[i]? with
            | none => simp [hy0] at h
            | some y0 =>
              simp only [hy0] at h
              split at h
              · rename_i hc
                obtain ⟨hl, hk, hle⟩ := hc
                have hcv := (datA_sound hv hx).cellsOk hk
                cases hh with
                | ownz _ hn => simp at hy0
                | own _ q' arr e hq' hb hr =>
                  obtain rfl : q' = q := by rw [hq'] at hq; exact Option.some.inj hq
                  obtain ⟨he, hz, hle2⟩ := hr.elem hy0
                  have hvl : val.cells.toList.length = y.size := by rw [← hcv.1, hl]
                  have hvs : val.cells.size = y.size := by simpa using hvl
                  have hrun := run_store_cells (w := w) V hy hb (o := i * q'.sz + j) hvs (by omega) hcv.one
                  refine ⟨_, hrun, ?_, same_setRow (hM.off id _ (by rw [hH]; rfl) hq) _⟩
                  have hput : putA arr.toList (i * q'.sz + j) val.cells.toList = putA arr.toList (i * q'.sz) (putA ((arr.toList.drop (i * q'.sz)).take q'.sz) j val.cells.toList) :=
                    (putA_putA arr.toList (i * q'.sz) j val.cells.toList q'.sz (by omega) (by simpa using hle2)).symm
                  rw [hput]
                  cases y0 with
                  | agg cs =>
                    simp only at h
                    cases h
                    have hle' : j + x.cells.length ≤ (Dat.agg cs).cells.length := by omega
                    refine hM.setOwn hH hq hb (row_set hr hy0 (y := .agg (putA cs j x.cells)) ?_ ?_)
                    · exact he.put hcv j hle'
                    · have e1 : (Dat.agg (putA cs j x.cells)).cells = putA cs j x.cells := rfl
                      rw [e1, putA_length cs j x.cells hle']
                      exact hz
                  | _ =>
                    all_goals
                      simp only at h
                      split at h
                      · rename_i c hxc
                        cases h
                        have hz' : q'.sz = 1 := by simpa [Dat.cells] using hz.symm
                        have hj0 : j = 0 := by simp only [Dat.cells, List.length_singleton] at hle; simp only [hxc, List.length_singleton] at hl; omega
                        have hcc : c.cells = [c] := by
                          have := hk
                          rw [hxc] at this
                          cases c <;> first | rfl | (simp [okC] at this)
                        subst hj0
                        have hul : val.cells.toList.length = 1 := by rw [← hcv.1, hxc]; rfl
                        have hpp : putA ((arr.toList.drop (i * q'.sz)).take q'.sz) 0 val.cells.toList = val.cells.toList := by
                          unfold putA
                          simp only [List.take_zero, List.nil_append, Nat.zero_add]
                          rw [List.drop_of_length_le (by simp; omega), List.append_nil]
                        rw [hpp]
                        refine hM.setOwn hH hq hb (row_set hr hy0 (y := c) ?_ (by rw [hcc]; simpa using hz'.symm))
                        rw [hcc, ← hxc]
                        exact hcv
                      · cases h
              · cases h
          | _ => simp [hH, hx] at h
    | _ => simp at h

end
end Go.Jv
