/- What a form's reading of an argument gives: a tree of its type, its Ev no longer than the form says. -/
import Derived.Test.YtkmbagocakiefaaGreatDoorL7
import Derived.Carry
import GoSem.ClaimJoined
import Derived.Deep.DeepHandedRow
import Derived.RowKit
import Derived.ChangeShapes
import Derived.OpenShut
import Derived.Below
import Derived.Laws.StructEq
import Derived.ChangeKeysEq
namespace Go.Jv
inductive Has (P : Program) : TypeId → Dat → Prop where
 | bool {t : TypeId} (b : Bool) (h : P.underlying t = some .bool) : Has P t (.bool b)
 | int {t : TypeId} {k : IntKind} (n : Int) (h : P.underlying t = some (.int k)) (hn : (Lit.int k n).wf = true) : Has P t (.int k n)
 | str {t : TypeId} (s : ByteArray) (h : P.underlying t = some .string) (hs : s.size ≤ reachBytes) : Has P t (.str s)
 | lst {t e : TypeId} (xs : List Dat) (h : P.underlying t = some (.slice e)) (hb : xs.length * P.bytesOf e ≤ reachBytes) (hx : ∀ x ∈ xs, Has P e x) : Has P t (.lst xs)
 | ptr {t e : TypeId} (x : Dat) (h : P.underlying t = some (.pointer e)) (hx : Has P e x) : Has P t (.ptr x.cells)
 | nilp {t e : TypeId} (h : P.underlying t = some (.pointer e)) : Has P t (.cst (.pointer none))
 | struct {t : TypeId} {fs : Array Field} (parts : List Dat) (h : P.underlying t = some (.struct fs)) (hl : parts.length = fs.size)
   (hx : ∀ (i : Nat) f x, fs[i]? = some f → parts[i]? = some x → Has P f.type x) : Has P t (.agg (parts.flatMap Dat.cells))
 | array {t : TypeId} {n : Nat} {e : TypeId} (parts : List Dat) (h : P.underlying t = some (.array n e)) (hl : parts.length = n) (hx : ∀ x ∈ parts, Has P e x) : Has P t (.agg (parts.flatMap Dat.cells))
def gm (P : Program) : Nat → List Field → Nat → Bool
 | off, [], n => off == n
 | off, f :: fs, n => f.offset == off && gm P (off + P.cellsOf f.type) fs n
def CH (P : Program) (T : List TypeId) : Bool :=
 T.all fun t => match P.underlying t with
  | some .bool | some (.int _) | some .string => true
  | some (.slice e) | some (.pointer e) => T.contains e && decide (0 < P.cellsOf e)
  | some (.struct fs) => fs.toList.all (fun f => T.contains f.type) && gm P 0 fs.toList (P.cellsOf t)
  | some (.array n e) => T.contains e && decide (P.cellsOf t = n * P.cellsOf e)
  | _ => false
theorem oT {α β : Type} {f : α → Option β} : ∀ {l : List α} {r : List β}, l.mapM f = some r → r.length = l.length ∧ ∀ (i : Nat) x, l[i]? = some x → ∃ y, r[i]? = some y ∧ f x = some y
 | [], r, h => by simp at h; subst h; exact ⟨rfl, fun i x h => by simp at h⟩
 | a :: l, r, h => by
  rw [List.mapM_cons] at h
  obtain ⟨b, hb, h⟩ := Option.bind_eq_some_iff.1 h
  obtain ⟨r', hr, h⟩ := Option.bind_eq_some_iff.1 h
  cases h
  obtain ⟨h1, h2⟩ := oT hr
  refine ⟨by simp [h1], fun i x hx => ?_⟩
  match i with
  | 0 => simp at hx; subst hx; exact ⟨b, rfl, hb⟩
  | i + 1 => exact h2 i x (by simpa using hx)
theorem Bx {α : Type} {p : Nat → α → Prop} : ∀ (n : Nat), (∀ i, i < n → ∃ x, p i x) → ∃ xs : List α, xs.length = n ∧ ∀ (i : Nat) x, xs[i]? = some x → p i x
 | 0, _ => ⟨[], rfl, fun i x h => by simp at h⟩
 | n + 1, h => by
  obtain ⟨xs, h1, h2⟩ := Bx n (fun i hi => h i (by omega))
  obtain ⟨x, hx⟩ := h n (by omega)
  refine ⟨xs ++ [x], by simp [h1], fun i y hy => ?_⟩
  by_cases hi : i < n
  ·rw [List.getElem?_append_left (by omega)] at hy; exact h2 i y hy
  ·have : i = n := by have := (List.getElem?_eq_some_iff.1 hy).1; simp [h1] at this; omega
   subst this
   rw [List.getElem?_append_right (by omega)] at hy
   simp [h1] at hy; subst hy; exact hx
mutual
def blk : Dat → Nat
 | .str s => s.size + 1
 | .lst xs => cE xs + 1
 | .ptr cs => cE cs + 1
 | .agg cs => cE cs
 | .int _ _ => 1
 | .bool _ => 1
 | .cst _ => 1
 | .ifc _ _ => 1
 | .fn _ _ => 1
def cE : List Dat → Nat
 | [] => 0
 | x :: xs => blk x + cE xs
end
mutual
def fk {H : Type} : DataW H → Nat
 | .lit (.string bytes) => bytes.length + 1
 | .lit _ => 1
 | .nil => 1
 | .ptr d => fk d + 1
 | .slice elems spare => fW elems + fW spare + 1
 | .agg parts => fW parts + 1
 | .iface _ d => fk d + 1
 | .map entries => ma entries + 1
 | .held _ => 1
def fW {H : Type} : List (DataW H) → Nat
 | [] => 0
 | d :: r => fk d + fW r
def ma {H : Type} : List (Lit × DataW H) → Nat
 | [] => 0
 | x :: r => kQ x + ma r
def kQ {H : Type} : Lit × DataW H → Nat
 | (.string bytes, d) => bytes.length + fk d + 1
 | (_, d) => fk d + 1
end
theorem vA {H : Type} (d : DataW H) : 1 ≤ fk d := by
 cases d with
 | lit l => cases l <;> simp [fk]
 | _ => simp [fk]
theorem Jn (xs ys : List Dat) : cE (xs ++ ys) = cE xs + cE ys := by
 induction xs with
 | nil => simp [cE]
 | cons x xs ih => simp only [List.cons_append, cE, ih]; omega
theorem By (x : Dat) : cE x.cells = blk x := by cases x <;> simp [Dat.cells, blk, cE]
theorem Dn (ps : List Dat) : cE (ps.flatMap Dat.cells) = cE ps := by
 induction ps with
 | nil => rfl
 | cons x ps ih => rw [List.flatMap_cons, Jn, ih, By]; rfl
theorem CI {H : Type} : ∀ {xs : List Dat} {ds : List (DataW H)}, xs.length = ds.length → (∀ (i : Nat) x d, xs[i]? = some x → ds[i]? = some d → blk x ≤ fk d) → cE xs ≤ fW ds
 | [], [], _, _ => Nat.le_refl _
 | x :: xs, d :: ds, hl, h => by
  have h1 := h 0 x d rfl rfl
  have h2 := CI (xs := xs) (ds := ds) (by simpa using hl) (fun i x d hx hd => h (i + 1) x d (by simpa using hx) (by simpa using hd))
  simp only [cE, fW]; omega
section
variable {P : Program} {S : Nat → Prop} {w : World}
theorem bf.app {cs ds : List Dat} {us vs : List Value} (h : bf S w cs us) (k : bf S w ds vs) : bf S w (cs ++ ds) (us ++ vs) := by
 refine ⟨by simp [h.1, k.1], fun j c u hj hu => ?_⟩
 by_cases hjl : j < cs.length
 ·rw [List.getElem?_append_left hjl] at hj
  rw [List.getElem?_append_left (by rw [← h.1]; exact hjl)] at hu
  exact h.2 j c u hj hu
 ·rw [List.getElem?_append_right (by omega)] at hj
  rw [List.getElem?_append_right (by rw [← h.1]; omega), ← h.1] at hu
  exact k.2 _ c u hj hu
theorem bf.single {x : Dat} {v : Value} (ho : v.oneCell' = true) (h : VR S w x v) : bf S w [x] [v] :=
 ⟨rfl, fun j c u hj hu => by
  match j with
  | 0 => simp at hj hu; subst hj hu; exact ⟨ho, h⟩
  | j + 1 => simp at hj⟩
theorem oU {H : Type} {e : TypeId} : ∀ {ds : List (DataW H)} {d : DataW H} {n : Nat}, d ∈ ds → n ∈ d.weights P e → n ∈ DataW.weightsAll P e ds
 | d' :: ds, d, n, hd, hn => by
  simp only [DataW.weightsAll, List.mem_append]
  rcases List.mem_cons.1 hd with rfl | h
  ·exact .inl hn
  ·exact .inr (oU h hn)
theorem rQ {base : Nat} {a : Addr} {n : Nat} {cs : List Value} (h : w.cells? base a n = some cs) : cs.length = n ∧ ∀ (j : Nat) u, cs[j]? = some u → w.cell? (a.add j) = some u := by
 unfold World.cells? at h
 split at h
 ·obtain ⟨h1, h2⟩ := oT h
  simp only [List.length_range] at h1
  refine ⟨h1, fun j u hu => ?_⟩
  have hj : j < n := by have := (List.getElem?_eq_some_iff.1 hu).1; omega
  obtain ⟨y, hy, hc⟩ := h2 j j (by simp [hj])
  rw [hu] at hy; cases hy; exact hc
 ·cases h
theorem GC {b o : Nat} {u : Value} (h : w.cell? ⟨b, o, none⟩ = some u) : b < w.heap.size := by
 unfold World.cell? at h
 simp only at h
 refine Classical.byContradiction fun hn => ?_
 rw [Array.getElem?_eq_none (by omega)] at h
 simp at h
theorem Jo {H : Type} {enc : TypeId × Value → H} {sp : Nat → Bool} {held : Bool} {T : List TypeId} (hT : CH P T = true) (hS : ∀ b, b < w.heap.size → S b) :
  ∀ (fuel : Nat) (t : TypeId) (cs : List Value) (d : DataW H) (ps : List MemPlace), t ∈ T → DataW.trod enc P w 0 sp held fuel t cs = some (d, ps) → (∀ n ∈ d.weights P t, n ≤ reachBytes) →
  ∃ x, bf S w x.cells cs ∧ Has P t x ∧ blk x ≤ fk d := by
 intro fuel
 induction fuel with
 | zero => intro t cs d ps _ h; simp [DataW.trod] at h
 | succ fuel ih =>
  intro t cs d ps ht h hw
  have hcl := List.all_eq_true.1 hT t ht
  cases hu : P.underlying t with
  | none => simp [hu] at hcl
  | some desc =>
   simp only [hu] at hcl
   unfold DataW.trod at h
   simp only [hu] at h
   cases desc with
   | bool =>
    rcases cs with _ | ⟨v, _ | ⟨v', cs⟩⟩
    ·simp at h
    ·cases v <;> simp at h
     rename_i b
     exact ⟨.bool b, bf.single rfl (.bool b), .bool b hu, vA d⟩
    ·simp at h
   | int k =>
    rcases cs with _ | ⟨v, _ | ⟨v', cs⟩⟩
    ·simp at h
    ·cases v <;> simp at h
     rename_i k' n
     obtain ⟨⟨rfl, hn⟩, _⟩ := h
     exact ⟨.int k' n, bf.single rfl (.int k' n), .int n hu hn, vA d⟩
    ·simp at h
   | string =>
    rcases cs with _ | ⟨v, _ | ⟨v', cs⟩⟩
    ·simp at h
    ·cases v <;> simp at h
     rename_i s
     obtain ⟨_, rfl, _⟩ := h
     refine ⟨.str s, bf.single rfl (.str s), .str s hu ?_, by simp [blk, fk]⟩
     have := hw s.data.toList.length (by simp [DataW.weights])
     simpa using this
    ·simp at h
   | slice e =>
    simp only [Bool.and_eq_true, decide_eq_true_eq] at hcl
    have he : e ∈ T := List.contains_iff_mem.1 hcl.1
    rcases cs with _ | ⟨v, _ | ⟨v', cs⟩⟩
    ·simp at h
    ·cases v with
     | slice a len cap =>
      cases a with
      | none =>
       rcases len with _ | len <;> rcases cap with _ | cap <;> simp at h
       exact ⟨.lst [], bf.single rfl .nil, .lst [] hu (by simp) (fun x hx => by simp at hx), vA d⟩
      | some a =>
       simp only at h
       split at h
       ·rename_i hc
        obtain ⟨elems, h1, h2⟩ := Option.bind_eq_some_iff.1 h
        obtain ⟨rest, h3, h4⟩ := Option.map_eq_some_iff.1 h2
        simp only [Prod.mk.injEq] at h4
        obtain ⟨rfl, _⟩ := h4
        obtain ⟨hl, hg⟩ := oT h1
        simp only [List.length_range] at hl
        have hb : elems.length * P.bytesOf e ≤ reachBytes := by
         have := hw _ (by simp only [DataW.weights, hu]; exact List.mem_cons_self ..)
         simp only [List.length_map] at this
         exact Nat.le_trans (Nat.mul_le_mul_right _ (Nat.le_add_right ..)) this
        obtain ⟨xs, hxl, hxs⟩ := Bx (p := fun i x => (Has P e x ∧ ∀ y, elems[i]? = some y → blk x ≤ fk y.1) ∧ ∃ ci, w.cells? 0 (a.add (i * P.cellsOf e)) (P.cellsOf e) = some ci ∧ bf S w x.cells ci) len (fun i hi => by
         obtain ⟨y, hy, hf⟩ := hg i i (by simp [hi])
         obtain ⟨ci, hci, htr⟩ := Option.bind_eq_some_iff.1 hf
         obtain ⟨x, hC, hH, hB⟩ := ih e ci y.1 y.2 he htr (fun n hn => hw n (by
          simp only [DataW.weights, hu, List.mem_cons, List.mem_append]
          exact .inr (.inl (oU (List.mem_map_of_mem (List.mem_of_getElem? hy)) hn))))
         exact ⟨x, ⟨hH, fun y' hy' => by rw [hy] at hy'; cases hy'; exact hB⟩, ci, hci, hC⟩)
        refine ⟨.lst xs, ?_, .lst xs hu (by rw [hxl, ← hl]; exact hb) (fun x hx => by obtain ⟨i, hi⟩ := List.getElem?_of_mem hx; exact (hxs i x hi).1.1), ?_⟩
        rotate_left
        ·have := CI (xs := xs) (ds := elems.map (·.1)) (by simp [hxl, hl]) (fun i x d hx hd => by
          rw [List.getElem?_map] at hd
          obtain ⟨y, hy, rfl⟩ := Option.map_eq_some_iff.1 hd
          exact (hxs i x hx).1.2 y hy)
         simp only [blk, fk]
         omega
        by_cases h0 : len = 0
        ·subst h0
         have : xs = [] := List.eq_nil_of_length_eq_zero hxl
         subst this
         exact bf.single rfl (.emp a cap hc.2.2)
        ·-- the first element's first cell says where the block lies
         have hspot : a.spot = none := by
          obtain ⟨x0, hx0⟩ : ∃ x0, xs[0]? = some x0 := ⟨_, List.getElem?_eq_getElem (by omega : 0 < xs.length)⟩
          obtain ⟨_, ci, hci, hC⟩ := hxs 0 x0 hx0
          obtain ⟨hcl', hcg⟩ := rQ hci
          have := hcg 0 _ (List.getElem?_eq_getElem (by omega : 0 < ci.length))
          simpa [Addr.add] using World.cell?_spot this
         obtain ⟨b, off, spot⟩ := a
         simp only at hspot
         subst hspot
         have hcell : ∀ i j, i < xs.length → j < P.cellsOf e → ∃ x u, xs[i]? = some x ∧ w.cell? ⟨b, off + (i * P.cellsOf e + j), none⟩ = some u ∧ x.cells.length = P.cellsOf e ∧ ∀ c, x.cells[j]? = some c → u.oneCell' = true ∧ VR S w c u := by
          intro i j hi hj
          have hxi := List.getElem?_eq_getElem hi
          obtain ⟨_, ci, hci, hC⟩ := hxs i _ hxi
          obtain ⟨hcl', hcg⟩ := rQ hci
          have hu' := List.getElem?_eq_getElem (by omega : j < ci.length)
          refine ⟨_, ci[j], hxi, ?_, by rw [hC.1, hcl'], fun c hcj => hC.2 j c _ hcj hu'⟩
          have := hcg j _ hu'
          rw [po, po] at this
          rw [← this, Nat.add_assoc]
         have hlt : b < w.heap.size := by
          obtain ⟨_, u, _, hc', _⟩ := hcell 0 0 (by omega) hcl.2
          exact GC hc'
         have hxsl : len = xs.length := hxl.symm
         rw [hxsl]
         refine bf.single rfl (.lst xs b off cap (P.cellsOf e) (fun i j => (w.cell? ⟨b, off + (i * P.cellsOf e + j), none⟩).getD Go.undef) (hS b hlt) (by omega) hc.2.2 ?_ ?_ ?_ ?_)
         ·intro i x hx
          obtain ⟨_, ci, hci, hC⟩ := hxs i x hx
          rw [hC.1, (rQ hci).1]
         ·intro i j hi hj
          obtain ⟨x, u, _, hcu, _⟩ := hcell i j hi hj
          rw [hcu]; rfl
         ·intro i j hi hj
          obtain ⟨x, u, hx, hcu, hxc, hr⟩ := hcell i j hi hj
          rw [hcu]
          exact (hr _ (List.getElem?_eq_getElem (by omega : j < x.cells.length))).1
         ·intro i x j c hx hj
          have hi : i < xs.length := (List.getElem?_eq_some_iff.1 hx).1
          obtain ⟨_, ci, hci, hC⟩ := hxs i x hx
          have hjl : j < P.cellsOf e := by
           have := (List.getElem?_eq_some_iff.1 hj).1
           rw [hC.1, (rQ hci).1] at this; exact this
          obtain ⟨x', u, hx', hcu, _, hr⟩ := hcell i j hi hjl
          rw [hx] at hx'; cases hx'
          rw [hcu]
          exact (hr c hj).2
       ·cases h
     | _ => simp at h
    ·simp at h
   | pointer e =>
    simp only [Bool.and_eq_true, decide_eq_true_eq] at hcl
    have he : e ∈ T := List.contains_iff_mem.1 hcl.1
    rcases cs with _ | ⟨v, _ | ⟨v', cs⟩⟩
    ·simp at h
    ·cases v with
     | pointer a =>
      cases a with
      | none => exact ⟨.cst (.pointer none), bf.single rfl (.cst _ rfl), .nilp hu, vA d⟩
      | some a =>
       simp only at h
       obtain ⟨y, h1, h2⟩ := Option.map_eq_some_iff.1 h
       simp only [Prod.mk.injEq] at h2
       obtain ⟨rfl, _⟩ := h2
       obtain ⟨ci, hci, htr⟩ := Option.bind_eq_some_iff.1 h1
       obtain ⟨x, hC, hH, hB⟩ := ih e ci y.1 y.2 he htr (fun n hn => hw n (by simp only [DataW.weights, hu]; exact hn))
       obtain ⟨hcl', hcg⟩ := rQ hci
       have hspot : a.spot = none := by
        have := hcg 0 _ (List.getElem?_eq_getElem (by omega : 0 < ci.length))
        simpa [Addr.add] using World.cell?_spot this
       obtain ⟨b, off, spot⟩ := a
       simp only at hspot
       subst hspot
       have hcell : ∀ j, j < x.cells.length → ∃ u, ci[j]? = some u ∧ w.cell? ⟨b, off + j, none⟩ = some u := by
        intro j hj
        have hu' := List.getElem?_eq_getElem (by rw [← hC.1]; exact hj : j < ci.length)
        exact ⟨_, hu', by have := hcg j _ hu'; rwa [po] at this⟩
       have hlt : b < w.heap.size := by
        obtain ⟨u, _, hc⟩ := hcell 0 (by rw [hC.1, hcl']; exact hcl.2)
        exact GC hc
       refine ⟨.ptr x.cells, bf.single rfl (.ptr x.cells b off (fun j => (w.cell? ⟨b, off + j, none⟩).getD Go.undef) (hS b hlt) ?_ ?_ ?_), .ptr x hu hH, by simp only [blk, fk, By]; omega⟩
       ·intro j hj
        obtain ⟨u, _, hc⟩ := hcell j hj
        rw [hc]; rfl
       ·intro j hj
        obtain ⟨u, hu', hc⟩ := hcell j hj
        rw [hc]
        exact (hC.2 j _ u (List.getElem?_eq_getElem hj) hu').1
       ·intro j c hj
        obtain ⟨u, hu', hc⟩ := hcell j (List.getElem?_eq_some_iff.1 hj).1
        rw [hc]
        exact (hC.2 j c u hj hu').2
     | _ => simp at h
    ·simp at h
   | struct fs =>
    simp only [Bool.and_eq_true] at hcl
    simp only at h
    split at h
    ·rename_i hlen
     obtain ⟨ys, h1, h2⟩ := Option.map_eq_some_iff.1 h
     simp only [Prod.mk.injEq] at h2
     obtain ⟨rfl, _⟩ := h2
     have key : ∀ (l : List Field) (off : Nat) (ys : List (DataW H × List MemPlace)), gm P off l cs.length = true → (∀ f ∈ l, f.type ∈ T) → l.mapM (fun f => DataW.trod enc P w 0 sp held fuel f.type ((cs.drop f.offset).take (P.cellsOf f.type))) = some ys →
       (∀ n ∈ DataW.weightsEach P (l.map (·.type)) (ys.map (·.1)), n ≤ reachBytes) → off ≤ cs.length →
       ∃ parts : List Dat, parts.length = l.length ∧ bf S w (parts.flatMap Dat.cells) (cs.drop off) ∧ (∀ (i : Nat) f x, l[i]? = some f → parts[i]? = some x → Has P f.type x) ∧ cE parts ≤ fW (ys.map (·.1)) := by
      intro l
      induction l with
      | nil =>
       intro off ys hc _ _ _ _
       simp only [gm, beq_iff_eq] at hc
       subst hc
       exact ⟨[], rfl, by simp [bf], fun i f x h => by simp at h, by simp [cE]⟩
      | cons f l ihl =>
       intro off ys hc hT' hm hw' hoff
       simp only [gm, Bool.and_eq_true, beq_iff_eq] at hc
       rw [List.mapM_cons] at hm
       obtain ⟨y, hy, hm⟩ := Option.bind_eq_some_iff.1 hm
       obtain ⟨ys', hys, hm⟩ := Option.bind_eq_some_iff.1 hm
       cases hm
       simp only [List.map_cons, DataW.weightsEach, List.mem_append] at hw'
       obtain ⟨x, hC, hH, hB⟩ := ih f.type _ y.1 y.2 (hT' f (by simp)) hy (fun n hn => hw' n (.inl hn))
       have hle : off + P.cellsOf f.type ≤ cs.length := by
        have hmono : ∀ (l : List Field) (o n : Nat), gm P o l n = true → o ≤ n := by
         intro l
         induction l with
         | nil => intro o n h; simp only [gm, beq_iff_eq] at h; omega
         | cons g l ih => intro o n h; simp only [gm, Bool.and_eq_true] at h; have := ih _ _ h.2; omega
        exact hmono l _ _ hc.2
       obtain ⟨parts, hpl, hpC, hpH, hpB⟩ := ihl (off + P.cellsOf f.type) ys' hc.2 (fun g hg => hT' g (by simp [hg])) hys (fun n hn => hw' n (.inr hn)) hle
       refine ⟨x :: parts, by simp [hpl], ?_, fun i g z hg hz => ?_, by simp only [cE, List.map_cons, fW]; omega⟩
       ·have e : cs.drop off = (cs.drop f.offset).take (P.cellsOf f.type) ++ cs.drop (off + P.cellsOf f.type) := by
         rw [hc.1, ← List.drop_drop, List.take_append_drop]
        rw [List.flatMap_cons, e]
        exact hC.app hpC
       ·match i with
        | 0 => simp at hg hz; subst hg hz; exact hH
        | i + 1 => exact hpH i g z (by simpa using hg) (by simpa using hz)
     obtain ⟨parts, hpl, hpC, hpH, hpB⟩ := key fs.toList 0 ys (by rw [hlen]; exact hcl.2) (fun f hf => List.contains_iff_mem.1 (List.all_eq_true.1 hcl.1 f hf)) h1 (fun n hn => hw n (by simp only [DataW.weights, hu]; exact hn)) (Nat.zero_le _)
     exact ⟨.agg (parts.flatMap Dat.cells), by rw [List.drop_zero] at hpC; exact hpC, .struct parts hu (by simpa using hpl) (fun i f x hf hx => hpH i f x (by simpa using hf) hx), by simp only [blk, fk, Dn]; omega⟩
    ·cases h
   | array n e =>
    simp only [Bool.and_eq_true, decide_eq_true_eq] at hcl
    have he : e ∈ T := List.contains_iff_mem.1 hcl.1
    simp only at h
    split at h
    ·rename_i hlen
     obtain ⟨ys, h1, h2⟩ := Option.map_eq_some_iff.1 h
     simp only [Prod.mk.injEq] at h2
     obtain ⟨rfl, _⟩ := h2
     obtain ⟨hl, hg⟩ := oT h1
     simp only [List.length_range] at hl
     have key : ∀ m, m ≤ n → ∃ parts : List Dat, parts.length = m ∧ bf S w (parts.flatMap Dat.cells) (cs.take (m * P.cellsOf e)) ∧ (∀ x ∈ parts, Has P e x) ∧ ∀ (i : Nat) x y, parts[i]? = some x → ys[i]? = some y → blk x ≤ fk y.1 := by
      intro m
      induction m with
      | zero => intro _; exact ⟨[], rfl, by simp [bf], fun x h => by simp at h, fun i x y h => by simp at h⟩
      | succ m ihm =>
       intro hm
       obtain ⟨parts, hpl, hpC, hpH, hpB⟩ := ihm (by omega)
       obtain ⟨y, hy, hf⟩ := hg m m (by simp [show m < n by omega])
       obtain ⟨x, hC, hH, hB⟩ := ih e _ y.1 y.2 he hf (fun k hk => hw k (by
        simp only [DataW.weights, hu]
        exact oU (List.mem_map_of_mem (List.mem_of_getElem? hy)) hk))
       refine ⟨parts ++ [x], by simp [hpl], ?_, fun z hz => ?_, fun i z y' hz hy' => ?_⟩
       ·rw [Nat.succ_mul, List.take_add, List.flatMap_append]
        simpa using hpC.app hC
       ·rcases List.mem_append.1 hz with h | h
        ·exact hpH z h
        ·simp at h; subst h; exact hH
       ·by_cases hi : i < m
        ·rw [List.getElem?_append_left (by omega)] at hz; exact hpB i z y' hz hy'
        ·have : i = m := by have := (List.getElem?_eq_some_iff.1 hz).1; simp [hpl] at this; omega
         subst this
         rw [List.getElem?_append_right (by omega)] at hz
         simp [hpl] at hz; subst hz
         rw [hy] at hy'; cases hy'; exact hB
     obtain ⟨parts, hpl, hpC, hpH, hpB⟩ := key n (Nat.le_refl _)
     rw [List.take_of_length_le (by rw [hlen, hcl.2]; exact Nat.le_refl _)] at hpC
     refine ⟨.agg (parts.flatMap Dat.cells), hpC, .array parts hu hpl hpH, ?_⟩
     have := CI (xs := parts) (ds := ys.map (·.1)) (by simp [hpl, hl]) (fun i x d hx hd => by
      rw [List.getElem?_map] at hd
      obtain ⟨y, hy, rfl⟩ := Option.map_eq_some_iff.1 hd
      exact hpB i x y hx hy)
     simp only [blk, fk, Dn]; omega
    ·cases h
   | _ => simp at hcl
end
end Go.Jv
namespace Go.Jv
open Go.ChangeShapes Go.RowKit
def CV : Lit → Option Dat
 | .bool b => some (.bool b)
 | .int k n => some (.int k n)
 | .string l => some (.str ⟨l.toArray⟩)
 | _ => none
def BS {H : Type} : List (DataW H) → Option (List Dat)
 | [] => some []
 | .lit l :: r => match CV l, BS r with | some x, some xs => some (x :: xs) | _, _ => none
 | _ => none
def rY {H : Type} : DataW H → Option (List Dat)
 | .agg ps => BS ps
 | _ => none
section
variable {P : Program} {S : Nat → Prop} {w : World}
def za (P : Program) (t : TypeId) : Bool := match P.underlying t with | some (.int _) | some .string | some .bool => true | _ => false
theorem Hv {H : Type} {enc : TypeId × Value → H} {sp : Nat → Bool} {held : Bool} {fuel : Nat} {t : TypeId} (ht : za P t = true) {cs : List Value} {l : Lit} {ps : List MemPlace} {x : Dat}
  (h : DataW.trod enc P w 0 sp held fuel t cs = some (.lit l, ps)) (hx : CV l = some x) : bf S w [x] cs := by
 cases fuel with
 | zero => simp [DataW.trod] at h
 | succ fuel =>
  unfold DataW.trod at h
  unfold za at ht
  cases hu : P.underlying t with
  | none => simp [hu] at ht
  | some desc =>
   simp only [hu] at ht h
   cases desc with
   | bool =>
    rcases cs with _ | ⟨v, _ | ⟨v', cs⟩⟩
    ·simp at h
    ·cases v <;> simp at h
     obtain ⟨rfl, _⟩ := h
     simp only [CV, Option.some.injEq] at hx
     subst hx
     exact bf.single rfl (.bool _)
    ·simp at h
   | int k =>
    rcases cs with _ | ⟨v, _ | ⟨v', cs⟩⟩
    ·simp at h
    ·cases v <;> simp at h
     obtain ⟨⟨rfl, _⟩, rfl, _⟩ := h
     simp only [CV, Option.some.injEq] at hx
     subst hx
     exact bf.single rfl (.int _ _)
    ·simp at h
   | string =>
    rcases cs with _ | ⟨v, _ | ⟨v', cs⟩⟩
    ·simp at h
    ·cases v <;> simp at h
     obtain ⟨_, rfl, _⟩ := h
     simp only [CV, Option.some.injEq] at hx
     subst hx
     exact bf.single rfl (.str _)
    ·simp at h
   | _ => simp at ht
theorem DC {H : Type} : ∀ {ds : List (DataW H)} {xs : List Dat}, BS ds = some xs → xs.length = ds.length ∧ ∀ (i : Nat) x, xs[i]? = some x → ∃ l, ds[i]? = some (.lit l) ∧ CV l = some x
 | [], xs, h => by simp [BS] at h; subst h; exact ⟨rfl, fun i x h => by simp at h⟩
 | d :: ds, xs, h => by
  cases d <;> simp only [BS, reduceCtorEq] at h
  rename_i l
  split at h
  ·rename_i x xs' hx hxs
   cases h
   obtain ⟨h1, h2⟩ := DC hxs
   refine ⟨by simp [h1], fun i y hy => ?_⟩
   match i with
   | 0 => simp at hy; subst hy; exact ⟨l, rfl, hx⟩
   | i + 1 => exact h2 i y (by simpa using hy)
  ·cases h
theorem Gk {H : Type} {enc : TypeId × Value → H} {sp : Nat → Bool} {held : Bool} {fuel : Nat} {t e : TypeId} {n : Nat} (hu : P.underlying t = some (.array n e)) (he : za P e = true) (hc : P.cellsOf e = 1) (hn : P.cellsOf t = n)
  {cs : List Value} {d : DataW H} {ps : List MemPlace} {xs : List Dat} (h : DataW.trod enc P w 0 sp held fuel t cs = some (d, ps)) (hx : rY d = some xs) : bf S w xs cs := by
 cases fuel with
 | zero => simp [DataW.trod] at h
 | succ fuel =>
  simp only [DataW.trod, hu, hc, hn, Nat.mul_one] at h
  split at h
  ·rename_i hlen
   obtain ⟨ys, h1, h2⟩ := Option.map_eq_some_iff.1 h
   simp only [Prod.mk.injEq] at h2
   obtain ⟨rfl, _⟩ := h2
   obtain ⟨h3, h4⟩ := DC hx
   obtain ⟨h5, h6⟩ := oT h1
   simp only [List.length_map] at h3
   simp only [List.length_range] at h5
   refine ⟨by omega, fun j c u hj hcu => ?_⟩
   have hjn : j < n := by have := (List.getElem?_eq_some_iff.1 hj).1; omega
   obtain ⟨l, hl, hlx⟩ := h4 j c hj
   obtain ⟨y, hy, hf⟩ := h6 j j (by simp [hjn])
   rw [List.getElem?_map, hy] at hl
   obtain ⟨y1, y2⟩ := y
   simp only [Option.map_some, Option.some.injEq] at hl
   subst hl
   have hcd := Hv (S := S) he hf hlx
   have : (cs.drop j).take 1 = [u] := by
    apply List.ext_getElem?
    intro k
    rw [List.getElem?_take]
    match k with
    | 0 => simp [hcu]
    | k + 1 => simp
   rw [this] at hcd
   exact hcd.2 0 c u rfl rfl
  ·cases h
theorem ju {n : String} {d : DataW Unit} {g : Nat} (hg : P.globalNamed n = some g) {t e : TypeId} {m : Nat} (ht : (P.globals[g]?).map (·.type) = some t) (hu : P.underlying t = some (.array m e)) (he : za P e = true)
  (hc : P.cellsOf e = 1) (hn : P.cellsOf t = m) {xs : List Dat} (hx : rY d = some xs) (hS : ∀ b, b < w.heap.size → S b) : ∀ {laid : List (String × DataW Unit)} {ps : List MemPlace}, (n, d) ∈ laid → DataW.LaidVars P w laid ps → VR S w (.ptr xs) (.pointer (some ⟨g, 0, none⟩))
 | [], _, hm, _ => by simp at hm
 | (n', d') :: laid, ps, hm, h => by
  obtain ⟨g', t', cs, fuel, p, q, h1, h2, h3, h4, h5, _⟩ := h
  rcases List.mem_cons.1 hm with he' | hm
  ·cases he'
   rw [hg] at h1; cases h1
   rw [ht] at h2; cases h2
   have hC := Gk (S := S) hu he hc hn h4 hx
   unfold World.var? at h3
   rw [hg] at h3
   simp only [Option.bind_some] at h3
   split at h3
   ·rename_i cs' ty fr hh
    cases h3
    have hlt : g < w.heap.size := (Array.getElem?_eq_some_iff.1 hh).1
    have := bf.ptr (T := S) (b := g) hC hh (hS g hlt) 0
    simpa using this
   ·cases h3
  ·exact ju hg ht hu he hc hn hx hS hm h5
theorem Gl {t : TypeId} {x : Dat} {v : Value} {r : Reach} {base : Nat} (hC : bf S w x.cells v.cells.toList) (hH : Has P t x) (hok : Value.okWide P w r base t v) : VR S w x v := by
 have one : x.cells = [x] → (∀ vs, v ≠ .agg vs) → VR S w x v := by
  intro h1 h2
  have hv : v.cells = #[v] := by cases v <;> first | rfl | exact absurd rfl (h2 _)
  rw [h1, hv] at hC
  exact (hC.2 0 x v rfl rfl).2
 have nagg : ∀ {d : TypeDesc}, P.underlying t = some d → isAgg d = false → ∀ vs, v ≠ .agg vs := by
  intro d hd hag vs e
  subst e
  unfold Value.okWide at hok
  rw [hd] at hok
  cases d <;> simp_all [Cell.okWide, Cell.ok, isAgg]
 have agg : ∀ {parts : List Dat}, x = .agg (parts.flatMap Dat.cells) → (∃ cs, v = .agg cs) → VR S w x v := by
  rintro parts rfl ⟨cs, rfl⟩
  exact .agg _ cs (by simpa [Dat.cells, Value.cells] using hC.1) (fun u hu => hC.one u (by simpa [Value.cells] using hu)) (fun j c u hj hu => (hC.2 j c u hj (by simpa [Value.cells] using hu)).2)
 cases hH with
 | bool b h => exact one rfl (nagg h rfl)
 | int n h hn => exact one rfl (nagg h rfl)
 | str s h hs => exact one rfl (nagg h rfl)
 | lst xs h hb hx => exact one rfl (nagg h rfl)
 | ptr y h hx => exact one rfl (nagg h rfl)
 | nilp h => exact one rfl (nagg h rfl)
 | struct parts h hl hx =>
  unfold Value.okWide at hok
  rw [h] at hok
  obtain ⟨cs, rfl, _⟩ := hok
  exact agg rfl ⟨cs, rfl⟩
 | array parts h hl hx =>
  unfold Value.okWide at hok
  rw [h] at hok
  obtain ⟨cs, rfl, _⟩ := hok
  exact agg rfl ⟨cs, rfl⟩
theorem BT {H : Type} {enc : TypeId × Value → H} {sp : Nat → Bool} {held : Bool} {T : List TypeId} (hT : CH P T = true) (hS : ∀ b, b < w.heap.size → S b) {r : Reach} {base : Nat} :
  ∀ {ts : List TypeId} {vs : List Value} {ds : List (DataW H)} {ps : List MemPlace}, (∀ t ∈ ts, t ∈ T) → DataW.TrodAll enc P w 0 sp held ts vs ds ps → (∀ n ∈ DataW.weightsEach P ts ds, n ≤ reachBytes) →
  (∀ (j : Nat) t v, ts[j]? = some t → vs[j]? = some v → Value.okWide P w r base t v) →
  ds.length = ts.length ∧ ∃ xs : List Dat, xs.length = ts.length ∧ xs.length = vs.length ∧ (∀ (i : Nat) x v, xs[i]? = some x → vs[i]? = some v → VR S w x v) ∧ (∀ (i : Nat) t x, ts[i]? = some t → xs[i]? = some x → Has P t x) ∧ cE xs ≤ fW ds
 | [], [], [], _, _, _, _, _ => ⟨rfl, [], rfl, rfl, fun i x v h => by simp at h, fun i t x h => by simp at h, Nat.le_refl _⟩
 | t :: ts, v :: vs, d :: ds, ps, hts, h, hw, hok => by
  obtain ⟨p, q, ⟨fuel, h1⟩, h2, _⟩ := h
  simp only [DataW.weightsEach, List.mem_append] at hw
  obtain ⟨x, hC, hH, hB⟩ := Jo hT hS fuel t _ d p (hts t (by simp)) h1 (fun n hn => hw n (.inl hn))
  obtain ⟨hdl, xs, h3, h4, h5, h6, h7⟩ := BT hT hS (fun t ht => hts t (by simp [ht])) h2 (fun n hn => hw n (.inr hn)) (fun j t v ht hv => hok (j + 1) t v ht hv)
  refine ⟨by simp [hdl], x :: xs, by simp [h3], by simp [h4], fun i y u hy hu => ?_, fun i t' y ht hy => ?_, by simp only [cE, fW]; omega⟩
  ·match i with
   | 0 => simp at hy hu; subst hy hu; exact Gl hC hH (hok 0 t v rfl rfl)
   | i + 1 => exact h5 i y u (by simpa using hy) (by simpa using hu)
  ·match i with
   | 0 => simp at hy ht; subst hy ht; exact hH
   | i + 1 => exact h6 i t' y (by simpa using ht) (by simpa using hy)
 | [], [], _ :: _, _, _, h, _, _ => h.elim
 | [], _ :: _, _, _, _, h, _, _ => h.elim
 | _ :: _, [], _, _, _, h, _, _ => h.elim
 | _ :: _, _ :: _, [], _, _, h, _, _ => h.elim
theorem wl {H : Type} {enc : TypeId × Value → H} (hl : laidOutB P = true) {W W' : World} (hb : Below W.heap.size W W') : ∀ {ts : List TypeId} {vs : List Value} {ds : List (DataW H)} {ps : List MemPlace},
  (∀ t ∈ ts, P.readableRec t = true ∧ t < P.types.size) → DataW.TrodAll enc P W 0 (fun _ => true) true ts vs ds ps → (∀ x ∈ ps, x.block < W.heap.size) →
  DataW.TrodAll enc P W' 0 (fun b => decide (b < W.heap.size)) true ts vs ds ps
 | [], [], [], _, _, h, _ => h
 | t :: ts, v :: vs, d :: ds, ps, hts, h, hlt => by
  obtain ⟨p, q, h1, h2, rfl⟩ := h
  exact ⟨p, q, Below.trod hl (hts t (by simp)).1 (hts t (by simp)).2 h1 hb (fun x hx => hlt x (by simp [hx])), wl hl hb (fun t ht => hts t (by simp [ht])) h2 (fun x hx => hlt x (by simp [hx])), rfl⟩
 | [], [], _ :: _, _, _, h, _ => h.elim
 | [], _ :: _, _, _, _, h, _ => h.elim
 | _ :: _, [], _, _, _, h, _ => h.elim
 | _ :: _, _ :: _, [], _, _, h, _ => h.elim
theorem Fh {N : Nat} {C : Cfg} {H : Type} {enc : TypeId × Value → H} {s : ChangeSpec} {f : FuncId} (hsound : ∀ xs rs, aL C f xs = some rs → Ba P C f xs rs) {fn : Func} {fresh handsOn : Bool} {bt : TypeId} {T : List TypeId}
  (hl : laidOutB P = true) (hT : CH P T = true) (hts : fn.params.toList.all (fun t => T.contains t && P.readableRec t && decide (t < P.types.size)) = true) (hres : fn.resultTypes = #[bt]) (hbt : P.underlying bt = some .bool) (hvars : s.vars = [])
  (hspec : ∀ ds : List (DataW H), ds.length = fn.params.size → (s.fn H ds).results = [.lit (.bool true)] ∧ (s.fn H ds).args = ds ∧ (s.fn H ds).vars = [])
  (hlaw : ∀ xs : List Dat, xs.length = fn.params.size → (∀ (i : Nat) t x, fn.params[i]? = some t → xs[i]? = some x → Has P t x) → cE xs ≤ N → aL C f xs = some [.bool true])
  {W : World} {base : Nat} {args : Array Value} {ds gs : List (DataW H)} (hN : fW ds ≤ N) {before : List MemPlace} (hval : ∀ (j : Nat) t v, fn.params[j]? = some t → args[j]? = some v → Value.okWide P W .any base t v)
  (hW : DataW.Whole enc P fn.params.toList s.vars false W args.toList ds gs before) (hw : ∀ n ∈ DataW.weightsEach P fn.params.toList ds, n ≤ reachBytes)
  (hglob : ∀ g cs, C.glob g = some cs → VR (fun b => b < W.heap.size) W (.ptr cs) (.pointer (some ⟨g, 0, none⟩))) :
  Calls P f args W fun e W' => ∃ v, e = .returned v ∧ s.post enc P fn false fresh handsOn false W args v W' := by
 have hlt : ∀ x ∈ before, x.block < W.heap.size := hW.lt
 have hW' := hW
 obtain ⟨p, q, hA, hV, rfl, hfz, hnd⟩ := hW
 rw [hvars] at hV
 have hgs : gs = [] ∧ q = [] := by
  cases gs with
  | nil => exact ⟨rfl, hV⟩
  | cons => exact hV.elim
 obtain ⟨rfl, rfl⟩ := hgs
 have htT : ∀ t ∈ fn.params.toList, t ∈ T ∧ P.readableRec t = true ∧ t < P.types.size := by
  intro t ht
  have := List.all_eq_true.1 hts t ht
  simp only [Bool.and_eq_true, decide_eq_true_eq] at this
  exact ⟨List.contains_iff_mem.1 this.1.1, this.1.2, this.2⟩
 obtain ⟨hdl, xs, h1, h2, h3, h4, h5⟩ := BT (S := fun b => b < W.heap.size) hT (fun _ h => h) (fun t ht => (htT t ht).1) hA hw (fun j t v ht hv => hval j t v (by simpa using ht) (by simpa using hv))
 have hps : ds.length = fn.params.size := by simpa using hdl
 obtain ⟨hs1, hs2, hs3⟩ := hspec ds hps
 have hD := hsound xs _ (hlaw xs (by simpa using h1) (fun i t x ht hx => h4 i t x (by simpa using ht) hx) (Nat.le_trans h5 hN))
 refine Calls.mono' (hD.2 (fun b => b < W.heap.size) W args (fun _ h => h) hglob (by rw [h2]; simp) (fun i x u hx hu => h3 i x u hx (by simpa using hu))) ?_
 intro e W1 hr
 cases e with
 | returned v =>
  obtain ⟨S1, hg, hv⟩ := hr
  have hv' : v = .bool true := by
   simp only [List.map_cons, List.map_nil, dv] at hv
   exact hv.dV.boolV
  subst hv'
  have hb : Below W.heap.size W W1 := ⟨hg.os, hg.tape, hg.output, hg.size, hg.keep⟩
  refine ⟨_, rfl, ds, [], p ++ [], [], p, [], hW', ?_, ?_, ?_, hb.frame _, fun h => by cases h⟩
  ·rw [List.append_nil, hs1, hres]
   exact trodAll_mk1 (shut_bool hbt true)
  ·rw [List.append_nil, hs2]
   exact wl hl hb (fun t ht => (htT t ht).2) hA (fun x hx => hlt x (by simp [hx]))
  ·rw [List.append_nil, hs3, hvars]
   rfl
 | _ => exact hr.elim
end
end Go.Jv
namespace Go.Jv
def Br : Value → Bool
 | .agg _ => true
 | _ => false
def CG (P : Program) (t : TypeId) : Option Ty :=
 match P.info? t, P.underlying t with
 | some i, some d =>
  match i.zero with
  | some z =>
   if z.cells.size = i.size ∧ z.cells.all (·.oneCell') = true ∧ (if isAgg d = true then Br z = true else i.size = 1 ∧ Br z = false) ∧ (match d with | .struct fs => fs.all fun f => (P.info? f.type).isSome | _ => true) = true then
    some ⟨d, i.size, i.bytes, z.cells.toList.map cav⟩
   else none
  | none => none
 | _, _ => none
def Li (P : Program) (f : FuncId) : Option Func :=
 match P.funcs[f]? with
 | some F => if BJ F = true ∧ (F.name == "runtime.NumGoroutine") = false then some F else none
 | none => none
def kH (P : Program) : Nat → TypeId → Option (List Nat)
 | 0, _ => none
 | d + 1, t =>
  if (CG P t).isSome = true then
   match P.underlying t with
   | some .bool => if P.cellsOf t = 1 then some [0] else none
   | some (.int _) => if P.cellsOf t = 1 then some [1] else none
   | some .string => if P.cellsOf t = 1 then some [2] else none
   | some (.struct fs) => if fs.toList.all (fun f => f.name != "_") = true ∧ gm P 0 fs.toList (P.cellsOf t) = true ∧ P.stoodInHeld t = false then (fs.toList.mapM fun f => kH P d f.type).map List.flatten else none
   | some (.array n e) => if n * P.cellsOf e = P.cellsOf t then (kH P d e).map fun q => (List.replicate n q).flatten else none
   | _ => none
  else none
def Lj (P : Program) (t : TypeId) : Option (List Nat) := if P.eqGuardType P.depth t then none else kH P 4 t
def Bs (P : Program) (glob : Nat → Option (List Dat)) (sig : FuncId → Sig) (ext : FuncId → List Dat → Option (List Dat)) : Cfg :=
 { ty := CG P, glob, fn := Li P, sig, eqs := Lj P, ext }
section
variable {P : Program} {S : Nat → Prop} {w : World}
theorem gX {t : TypeId} {y : Ty} (h : CG P t = some y) :
  P.underlying t = some y.desc ∧ (∃ i z, P.info? t = some i ∧ i.size = y.size ∧ i.bytes = y.bytes ∧ i.zero = some z ∧ te y z) ∧ ∀ fs : Array Field, y.desc = .struct fs → ∀ f ∈ fs, (P.info? f.type).isSome = true := by
 unfold CG at h
 split at h
 ·rename_i i d hi hd
  split at h
  ·rename_i z hz
   simp only [Option.ite_none_right_eq_some, Option.some.injEq] at h
   obtain ⟨⟨h1, h2, h3, h4⟩, rfl⟩ := h
   ·skip
    refine ⟨hd, ⟨i, z, hi, rfl, rfl, hz, h1, by simpa using h1, fun u hu => Array.all_eq_true_iff_forall_mem.1 h2 u hu, fun j c hj => ?_, fun ha => ?_, fun ha => ?_⟩, fun fs hfs f hf => ?_⟩
    ·simp only [List.getElem?_map] at hj
     obtain ⟨u, hu, rfl⟩ := Option.map_eq_some_iff.1 hj
     have hu' : z.cells[j]? = some u := by simpa using hu
     exact ⟨u, hu', fun S w B => Dw (Array.all_eq_true_iff_forall_mem.1 h2 u (Array.mem_of_getElem? hu'))⟩
    ·simp only at ha
     rw [if_pos ha] at h3
     cases z <;> simp [Br] at h3
     rfl
    ·simp only at ha
     rw [ha] at h3
     simp only [Bool.false_eq_true, if_false] at h3
     refine ⟨h3.1, fun cs e => ?_⟩
     subst e
     simp [Br] at h3
    ·simp only at hfs
     subst hfs
     exact Array.all_eq_true_iff_forall_mem.1 h4 f hf
  ·cases h
 ·cases h
theorem tX : ∀ (n : Nat) {qs : List Nat} {ds es : List Dat} {r : Bool}, cM qs ds es = some r → ∃ r1 r2, cM (qs.take n) (ds.take n) (es.take n) = some r1 ∧ cM (qs.drop n) (ds.drop n) (es.drop n) = some r2 ∧ r = (r1 && r2)
 | 0, qs, ds, es, r, h => ⟨true, r, rfl, h, rfl⟩
 | n + 1, [], [], [], r, h => by simp only [cM, Option.some.injEq] at h; subst h; exact ⟨true, true, rfl, rfl, rfl⟩
 | n + 1, [], [], _ :: _, r, h => by simp [cM] at h
 | n + 1, [], _ :: _, _, r, h => by simp [cM] at h
 | n + 1, _ :: _, [], _, r, h => by simp [cM] at h
 | n + 1, _ :: _, _ :: _, [], r, h => by simp [cM] at h
 | n + 1, q :: qs, d :: ds, e :: es, r, h => by
  simp only [cM] at h
  split at h
  ·rename_i a b h1 h2
   cases h
   obtain ⟨r1, r2, h3, h4, h5⟩ := tX n h2
   exact ⟨a && r1, r2, by simp [cM, h1, h3], h4, by rw [h5, Bool.and_assoc]⟩
  ·cases h
theorem xw : ∀ {qs : List Nat} {ds es : List Dat} {r : Bool}, cM qs ds es = some r → ds.length = qs.length ∧ es.length = qs.length
 | [], [], [], r, _ => ⟨rfl, rfl⟩
 | [], [], _ :: _, r, h => by simp [cM] at h
 | [], _ :: _, _, r, h => by simp [cM] at h
 | _ :: _, [], _, r, h => by simp [cM] at h
 | _ :: _, _ :: _, [], r, h => by simp [cM] at h
 | q :: qs, d :: ds, e :: es, r, h => by
  simp only [cM] at h
  split at h
  ·rename_i a b h1 h2
   have := xw h2
   simp [this.1, this.2]
  ·cases h
theorem bf.takeN {cs : List Dat} {us : List Value} (h : bf S w cs us) (n : Nat) : bf S w (cs.take n) (us.take n) ∧ bf S w (cs.drop n) (us.drop n) := by
 refine ⟨⟨by simp [h.1], fun j c u hj hu => ?_⟩, ⟨by simp [h.1], fun j c u hj hu => ?_⟩⟩
 ·rw [List.getElem?_take] at hj hu
  split at hj
  ·rename_i hlt; rw [if_pos hlt] at hu; exact h.2 j c u hj hu
  ·cases hj
 ·rw [List.getElem?_drop] at hj hu
  exact h.2 _ c u hj hu
def vx (P : Program) : Cfg := { ty := CG P, glob := fun _ => none, fn := fun _ => none, sig := fun _ => .dat, eqs := fun _ => none, ext := fun _ _ => none }
theorem Bt (hm : P.follows .mixedOrders = true) : ca P (vx P) :=
 ⟨fun t y h => ⟨(gX h).1, (gX h).2.1⟩, fun f F h => (by cases h), hm, fun t y h => (gX h).2.2, fun t qs y h => (by cases h)⟩
theorem Ih {d : Nat} {xs ys : Array Value} : (Op.eqFields d xs ys []).run P w = .ok true w := by simp [Op.eqFields]
theorem Ii {d : Nat} {xs ys : Array Value} {f : Field} {fs : List Field} {a b : Value} {r s : Bool} (hn : f.name ≠ "_") (ha : (part f.type xs f.offset).run P w = .ok a w) (hb : (part f.type ys f.offset).run P w = .ok b w)
  (he : (Op.equalIn d f.type a b).run P w = .ok r w) (hr : (Op.eqFields d xs ys fs).run P w = .ok s w) : (Op.eqFields d xs ys (f :: fs)).run P w = .ok (r && s) w := by
 rw [Op.eqFields]
 simp only [if_pos hn, Sem.run_bind, ha, hb, he, Result.andThen_ok]
 cases r
 ·simp
 ·simpa using hr
theorem Dm : ∀ {l : List Field} {o n : Nat}, gm P o l n = true → o ≤ n
 | [], o, n, h => by simp only [gm, beq_iff_eq] at h; omega
 | g :: l, o, n, h => by simp only [gm, Bool.and_eq_true] at h; have := Dm h.2; omega
theorem vy {g : Bool} {us : List Value} (h : g = false → us.length = 1) : ∃ v, mkV g us = some v := by
 cases g with
 | true => exact ⟨_, rfl⟩
 | false =>
  match us, h rfl with
  | [u], _ => exact ⟨u, rfl⟩
theorem Bu {d : Nat} {t : TypeId} {qs : List Nat} (h : kH P d t = some qs) : ∃ y, CG P t = some y := by
 cases d with
 | zero => simp [kH] at h
 | succ d =>
  simp only [kH] at h
  split at h
  ·rename_i hs; exact Option.isSome_iff_exists.1 hs
  ·cases h
theorem xx : ∀ (d : Nat) (t : TypeId) (qs : List Nat), kH P d t = some qs → qs.length = P.cellsOf t := by
 intro d
 induction d with
 | zero => intro t qs h; simp [kH] at h
 | succ d ih =>
  intro t qs h
  simp only [kH] at h
  split at h
  ·split at h
   ·simp only [Option.ite_none_right_eq_some, Option.some.injEq] at h; rw [h.1, ← h.2]; rfl
   ·simp only [Option.ite_none_right_eq_some, Option.some.injEq] at h; rw [h.1, ← h.2]; rfl
   ·simp only [Option.ite_none_right_eq_some, Option.some.injEq] at h; rw [h.1, ← h.2]; rfl
   ·rename_i fs hu
    simp only [Option.ite_none_right_eq_some] at h
    obtain ⟨⟨_, h2, _⟩, h⟩ := h
    obtain ⟨qss, hqs, rfl⟩ := Option.map_eq_some_iff.1 h
    have key : ∀ (l : List Field) (off n : Nat) (qss : List (List Nat)), gm P off l n = true → l.mapM (fun f => kH P d f.type) = some qss → off + qss.flatten.length = n := by
     intro l
     induction l with
     | nil => intro off n qss hc hq; simp at hq; subst hq; simpa [gm] using hc
     | cons f l ihl =>
      intro off n qss hc hq
      simp only [gm, Bool.and_eq_true, beq_iff_eq] at hc
      rw [List.mapM_cons] at hq
      obtain ⟨q1, hq1, hq⟩ := Option.bind_eq_some_iff.1 hq
      obtain ⟨qss', hqs', hq⟩ := Option.bind_eq_some_iff.1 hq
      cases hq
      have := ihl _ _ _ hc.2 hqs'
      rw [List.flatten_cons, List.length_append, ih _ _ hq1]
      omega
    have := key fs.toList 0 _ qss h2 hqs
    omega
   ·rename_i n e hu
    simp only [Option.ite_none_right_eq_some] at h
    obtain ⟨h1, h⟩ := h
    obtain ⟨q, hq, rfl⟩ := Option.map_eq_some_iff.1 h
    rw [← h1, ← ih _ _ hq]
    simp
   ·cases h
  ·cases h
theorem Hb (hm : P.follows .mixedOrders = true) : ∀ (d : Nat) (t : TypeId) (dd : TypeDesc) (qs : List Nat), kH P d t = some qs → P.underlying t = some dd → ∀ (ds es : List Dat) (us vs : List Value) (r : Bool), cM qs ds es = some r →
  bf S w ds us → bf S w es vs → us.length = P.cellsOf t → vs.length = P.cellsOf t → ∀ x y, mkV (isAgg dd) us = some x → mkV (isAgg dd) vs = some y → ∀ k, (Op.equalIn (d + k) t x y).run P w = .ok r w := by
 intro d
 induction d with
 | zero => intro t dd qs h; simp [kH] at h
 | succ d ih =>
  intro t dd qs h hu ds es us vs r hr hA hB hl hl' x y hx hy k
  simp only [kH, hu] at h
  split at h
  ·rw [show d + 1 + k = (d + k) + 1 by omega]
   have scal : ∀ q, qs = [q] → isAgg dd = false → (∀ a b, VR S w a x → VR S w b y → eqD q a b = some r → (Op.equalIn ((d + k) + 1) t x y).run P w = .ok r w) → (Op.equalIn ((d + k) + 1) t x y).run P w = .ok r w := by
    intro q hq hag hf
    subst hq
    rw [hag] at hx hy
    obtain ⟨e1, e2⟩ := xw hr
    match ds, e1 with
    | [a], _ =>
     match es, e2 with
     | [b], _ =>
      match us, hA with
      | [u], hA =>
       match vs, hB with
       | [v], hB =>
        simp only [mkV, Bool.false_eq_true, if_false, Option.some.injEq] at hx hy
        subst hx hy
        simp only [cM] at hr
        split at hr
        ·rename_i r1 r2 h1 h2
         simp only [Option.some.injEq] at h2 hr
         subst h2
         rw [Bool.and_true] at hr
         subst hr
         exact hf a b (hA.2 0 a u rfl rfl).2 (hB.2 0 b v rfl rfl).2 h1
        ·cases hr
       | [], hB => exact absurd hB.1 (by simp)
       | _ :: _ :: _, hB => exact absurd hB.1 (by simp)
      | [], hA => exact absurd hA.1 (by simp)
      | _ :: _ :: _, hA => exact absurd hA.1 (by simp)
   cases dd with
   | bool =>
    simp only [Option.ite_none_right_eq_some, Option.some.injEq] at h
    refine scal 0 h.2.symm rfl fun a b ha hb he => ?_
    unfold eqD at he
    split at he <;> first | (cases he; done) | skip
    ·exact absurd ‹0 = 1› (by decide)
    ·cases he
     obtain rfl := ha.boolV
     obtain rfl := hb.boolV
     simp only [Op.equalIn, Sem.run_bind, run_underlying hu w, Result.andThen_ok]
     simp [BEq.beq]
    ·exact absurd ‹0 = 2› (by decide)
   | int kk =>
    simp only [Option.ite_none_right_eq_some, Option.some.injEq] at h
    refine scal 1 h.2.symm rfl fun a b ha hb he => ?_
    unfold eqD at he
    split at he <;> first | (cases he; done) | skip
    ·split at he
     ·rename_i hk
      cases he
      subst hk
      obtain rfl := ha.intV
      obtain rfl := hb.intV
      simp only [Op.equalIn, Sem.run_bind, run_underlying hu w, Result.andThen_ok]
      simp [BEq.beq]
     ·cases he
    ·exact absurd ‹1 = 0› (by decide)
    ·exact absurd ‹1 = 2› (by decide)
   | string =>
    simp only [Option.ite_none_right_eq_some, Option.some.injEq] at h
    refine scal 2 h.2.symm rfl fun a b ha hb he => ?_
    unfold eqD at he
    split at he <;> first | (cases he; done) | skip
    ·exact absurd ‹2 = 1› (by decide)
    ·exact absurd ‹2 = 0› (by decide)
    ·cases he
     obtain rfl := ha.strV
     obtain rfl := hb.strV
     simp only [Op.equalIn, Sem.run_bind, run_underlying hu w, Result.andThen_ok]
     rw [beq_toListBytes, CX]
     simp
   | struct fs =>
    simp only [Option.ite_none_right_eq_some] at h
    obtain ⟨⟨h1, h2, h3⟩, h⟩ := h
    obtain ⟨qss, hqs, rfl⟩ := Option.map_eq_some_iff.1 h
    simp only [isAgg, mkV, if_true, Option.some.injEq] at hx hy
    subst hx hy
    have hf : P.fieldsOf t = fs := by simp [Program.fieldsOf, hu]
    rw [run_equalIn_struct (P := P) w (d + k) t _ _ (by rw [hf]; exact hu) h3, hf]
    have key : ∀ (l : List Field) (off : Nat) (r : Bool) (qss : List (List Nat)), gm P off l us.length = true → (∀ f ∈ l, f.name ≠ "_") → l.mapM (fun f => kH P d f.type) = some qss → cM qss.flatten (ds.drop off) (es.drop off) = some r →
      (Op.eqFields (d + k) us.toArray vs.toArray l).run P w = .ok r w := by
     intro l
     induction l with
     | nil =>
      intro off r qss hc _ hq hr
      simp at hq
      subst hq
      cases hds : ds.drop off with
      | cons => rw [hds] at hr; simp [cM] at hr
      | nil =>
       cases hes : es.drop off with
       | cons => rw [hds, hes] at hr; simp [cM] at hr
       | nil =>
        rw [hds, hes] at hr
        simp only [List.flatten_nil, cM, Option.some.injEq] at hr
        subst hr
        exact Ih
     | cons f l ihl =>
      intro off r qss hc hall hq hr
      simp only [gm, Bool.and_eq_true, beq_iff_eq] at hc
      rw [List.mapM_cons] at hq
      obtain ⟨q1, hq1, hq⟩ := Option.bind_eq_some_iff.1 hq
      obtain ⟨qss', hqs', hq⟩ := Option.bind_eq_some_iff.1 hq
      cases hq
      rw [List.flatten_cons] at hr
      have hle := Dm hc.2
      obtain ⟨yf, hyf⟩ := Bu hq1
      obtain ⟨huf, ⟨i, z, hi, hsz, _, _, hzr⟩, _⟩ := gX hyf
      have hcell : P.cellsOf f.type = yf.size := by simp [Program.cellsOf, hi, hsz]
      -- as fU Hp as cells
      obtain ⟨r1, r2, e1, e2, rfl⟩ := tX q1.length hr
      simp only [List.take_left, List.drop_left] at e1 e2
      have hql := xx _ _ _ hq1
      rw [hql] at e1 e2
      rw [List.drop_drop, List.drop_drop] at e2
      have hag : isAgg yf.desc = false → yf.size = 1 := fun ha => (hzr.2.2.2.2.2 ha).1
      obtain ⟨xa, hxa⟩ := vy (g := isAgg yf.desc) (us := (us.drop off).take (P.cellsOf f.type)) (fun h => by rw [List.length_take, List.length_drop, hcell, hag h]; have := hag h; omega)
      obtain ⟨ya, hya⟩ := vy (g := isAgg yf.desc) (us := (vs.drop off).take (P.cellsOf f.type)) (fun h => by rw [List.length_take, List.length_drop, hcell, hag h]; have := hag h; omega)
      have hsT : bP (vx P) f.type = some (P.cellsOf f.type) := by simp [bP, vx, hyf, hcell]
      have haT : lP (vx P) f.type = some (isAgg yf.desc) := by simp [lP, vx, hyf]
      have pa := oS (w := w) (Bt hm) hsT haT (vs := us.toArray) (off := off) (by simp; omega) (by simpa using hxa)
      have pb := oS (w := w) (Bt hm) hsT haT (vs := vs.toArray) (off := off) (by simp; omega) (by simpa using hya)
      have he := ih f.type yf.desc q1 hq1 huf _ _ _ _ r1 e1 ((hA.takeN off).2.takeN (P.cellsOf f.type)).1 ((hB.takeN off).2.takeN (P.cellsOf f.type)).1 (by simp; omega) (by simp; omega) xa ya hxa hya k
      rw [← hc.1] at pa pb
      exact Ii (hall f (by simp)) pa pb he (ihl _ r2 qss' hc.2 (fun g hg => hall g (by simp [hg])) hqs' e2)
    refine key fs.toList 0 r qss (by rw [hl]; exact h2) (fun f hf => ?_) hqs (by simpa using hr)
    have := List.all_eq_true.1 h1 f hf
    simpa using this
   | array n e =>
    simp only [Option.ite_none_right_eq_some] at h
    obtain ⟨h1, h⟩ := h
    obtain ⟨q, hq, rfl⟩ := Option.map_eq_some_iff.1 h
    simp only [isAgg, mkV, if_true, Option.some.injEq] at hx hy
    subst hx hy
    obtain ⟨yf, hyf⟩ := Bu hq
    obtain ⟨huf, ⟨i, z, hi, hsz, _, _, hzr⟩, _⟩ := gX hyf
    have hcell : P.cellsOf e = yf.size := by simp [Program.cellsOf, hi, hsz]
    have hql := xx _ _ _ hq
    rw [run_equalIn_array w (d + k) _ _ hu hi]
    have key : ∀ (m j : Nat) (r : Bool), j + m = n → cM (List.replicate m q).flatten (ds.drop (j * P.cellsOf e)) (es.drop (j * P.cellsOf e)) = some r →
      (Op.eqItems (d + k) e (P.cellsOf e) us.toArray vs.toArray (List.range' j m)).run P w = .ok r w := by
     intro m
     induction m with
     | zero =>
      intro j r hj hr
      cases hds : ds.drop (j * P.cellsOf e) with
      | cons => rw [hds] at hr; simp [cM] at hr
      | nil =>
       cases hes : es.drop (j * P.cellsOf e) with
       | cons => rw [hds, hes] at hr; simp [cM] at hr
       | nil =>
        rw [hds, hes] at hr
        simp only [List.replicate_zero, List.flatten_nil, cM, Option.some.injEq] at hr
        subst hr
        simp [Op.eqItems]
     | succ m ihm =>
      intro j r hj hr
      rw [List.replicate_succ, List.flatten_cons] at hr
      obtain ⟨r1, r2, e1, e2, rfl⟩ := tX q.length hr
      simp only [List.take_left, List.drop_left] at e1 e2
      rw [hql] at e1 e2
      rw [List.drop_drop, List.drop_drop] at e2
      have hle : j * P.cellsOf e + P.cellsOf e ≤ us.length := by
       rw [hl, ← h1, ← Nat.succ_mul]; exact Nat.mul_le_mul_right _ (by omega)
      have hag : isAgg yf.desc = false → yf.size = 1 := fun ha => (hzr.2.2.2.2.2 ha).1
      obtain ⟨xa, hxa⟩ := vy (g := isAgg yf.desc) (us := (us.drop (j * P.cellsOf e)).take (P.cellsOf e)) (fun h => by rw [List.length_take, List.length_drop, hcell, hag h]; rw [hcell, hag h] at hle; omega)
      obtain ⟨ya, hya⟩ := vy (g := isAgg yf.desc) (us := (vs.drop (j * P.cellsOf e)).take (P.cellsOf e)) (fun h => by rw [List.length_take, List.length_drop, hcell, hag h]; rw [hcell, hag h] at hle; omega)
      have hsT : bP (vx P) e = some (P.cellsOf e) := by simp [bP, vx, hyf, hcell]
      have haT : lP (vx P) e = some (isAgg yf.desc) := by simp [lP, vx, hyf]
      have pa := oS (w := w) (Bt hm) hsT haT (vs := us.toArray) (off := j * P.cellsOf e) (by simp; omega) (by simpa using hxa)
      have pb := oS (w := w) (Bt hm) hsT haT (vs := vs.toArray) (off := j * P.cellsOf e) (by simp; omega) (by simpa using hya)
      have he := ih e yf.desc q hq huf _ _ _ _ r1 e1 ((hA.takeN (j * P.cellsOf e)).2.takeN (P.cellsOf e)).1 ((hB.takeN (j * P.cellsOf e)).2.takeN (P.cellsOf e)).1 (by simp; omega) (by simp; omega) xa ya hxa hya k
      have hi2 := ihm (j + 1) r2 (by omega) (by rw [Nat.succ_mul]; exact e2)
      rw [List.range'_succ]
      simp only [Op.eqItems, Sem.run_bind, pa, pb, he, Result.andThen_ok]
      cases r1
      ·simp
      ·simpa using hi2
    rw [List.range_eq_range']
    exact key n 0 r (by omega) (by simpa using hr)
   | _ => simp at h
  ·cases h
theorem KL (hm : P.follows .mixedOrders = true) (glob : Nat → Option (List Dat)) (sig : FuncId → Sig) (ext : FuncId → List Dat → Option (List Dat)) : ca P (Bs P glob sig ext) := by
 refine ⟨fun t y h => ⟨(gX h).1, (gX h).2.1⟩, fun f F h => ?_, hm, fun t y h => (gX h).2.2, fun t qs y h hy hagg xs ys ds es r w x0 y0 hr hx hy0 => ?_⟩
 ·simp only [Bs, Li] at h
  split at h
  ·rename_i F' hf
   simp only [Option.ite_none_right_eq_some, Option.some.injEq] at h
   obtain ⟨⟨h1, h2⟩, rfl⟩ := h
   exact ⟨hf, h1, h2⟩
  ·cases h
 ·simp only [Bs, Lj] at h
  split at h
  ·cases h
  ·rename_i hg
   have hg : P.eqGuardType P.depth t = false := by simpa using hg
   obtain ⟨hu, _, _⟩ := gX hy
   have hlen := xx _ _ _ h
   obtain ⟨l1, l2⟩ := xw hr
   have c1 : bf (fun _ => False) w ds xs.toList := by
    cases hx (fun _ => False) w with
    | agg _ _ hl ho hv => exact ⟨by simpa using hl, fun j c u hj hu => ⟨ho u (Array.mem_of_getElem? (by simpa using hu)), hv j c u hj (by simpa using hu)⟩⟩
   have c2 : bf (fun _ => False) w es ys.toList := by
    cases hy0 (fun _ => False) w with
    | agg _ _ hl ho hv => exact ⟨by simpa using hl, fun j c u hj hu => ⟨ho u (Array.mem_of_getElem? (by simpa using hu)), hv j c u hj (by simpa using hu)⟩⟩
   have he := Hb hm 4 t y.desc qs h hu ds es xs.toList ys.toList r hr c1 c2 (by rw [← c1.1, l1, hlen]) (by rw [← c2.1, l2, hlen]) (.agg xs) (.agg ys) (by simp [hagg, mkV]) (by simp [hagg, mkV]) 9996
   have he' : (Op.equal t (.agg xs) (.agg ys)).run P w = .ok r w := he
   have hgd : ∀ op, (eqGuard op t x0 y0 (.agg xs) (.agg ys)).run P w = .ok () w := by
    intro op
    unfold eqGuard
    cases op <;> simp [hg]
   refine ⟨?_, ?_⟩ <;> rw [Sem.run_bind, hgd, Result.andThen_ok] <;> simp [binOp, he']
end
end Go.Jv
