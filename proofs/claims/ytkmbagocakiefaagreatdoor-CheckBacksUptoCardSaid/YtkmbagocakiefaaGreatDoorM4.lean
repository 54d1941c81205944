/- Steps of a walk: maps. -/
import Derived.Test.YtkmbagocakiefaaGreatDoorM3
import Derived.Laws.Externs
namespace Go.Jv
def mA {κ ν : Type} [DecidableEq κ] (k : κ) : List (κ × ν) → Nat → Option (Nat × ν)
 | [], _ => none
 | (q, v) :: es, i => if k = q then some (i, v) else mA k es (i + 1)
def pj {κ ν : Type} [DecidableEq κ] (l : List (κ × ν)) (k : κ) : Option ν := (mA k l 0).map (·.2)
def yk {κ ν : Type} [DecidableEq κ] (l : List (κ × ν)) (k : κ) (v : ν) : List (κ × ν) := match mA k l 0 with | some p => l.set p.1 (k, v) | none => l ++ [(k, v)]
def eM {κ ν : Type} (eK : κ → Dat) (eV : ν → Dat) (l : List (κ × ν)) : List (Dat × Dat) := l.map fun p => (eK p.1, eV p.2)
theorem uh {κ ν : Type} [DecidableEq κ] {eK : κ → Dat} {eV : ν → Dat} (hs : ∀ a b, lq (eK a) (eK b) = some (decide (a = b))) (k : κ) : ∀ (l : List (κ × ν)) (i : Nat), tm (eK k) (eM eK eV l) i = some ((mA k l i).map fun p => (p.1, eV p.2))
 | [], i => rfl
 | (q, v) :: l, i => by
  have ih := uh hs k (eV := eV) l (i + 1)
  simp only [eM] at ih
  simp only [eM, List.map_cons, tm, hs, mA]
  by_cases h : k = q
  ·simp [h]
  ·simp [h, ih]
theorem Gs {κ ν : Type} [DecidableEq κ] {eK : κ → Dat} {eV : ν → Dat} (hs : ∀ a b, lq (eK a) (eK b) = some (decide (a = b))) (l : List (κ × ν)) (k : κ) (v : ν) : BO (eM eK eV l) (eK k) (eV v) = some (eM eK eV (yk l k v)) := by
 simp only [BO, uh hs, yk]
 cases mA k l 0 with
 | none => simp [eM]
 | some p => simp [eM, List.map_set]
theorem Fz : ∀ a b : ByteArray, lq (.str a) (.str b) = some (decide (a = b)) := fun a b => by
 simp only [lq]
 by_cases h : a = b
 ·simp [h, (MapKept.bytes_beq b b).2 rfl]
 ·have : (a == b) = false := by
   cases hb : (a == b) with
   | false => rfl
   | true => exact absurd ((MapKept.bytes_beq a b).1 hb) h
  simp [h, this]
theorem GP {C : Cfg} {k : TypeId} {a b : Nat} {c : List AV} (h : C.ty k = some ⟨.string, a, b, c⟩) : ∀ x, rj C k (.str x) = true := fun x => by simp [rj, h]
theorem Raw.to {C : Cfg} {f : FuncId} {vs : List AV} {H : Hs} {n : Nat} {Q Q' : List AV → Hs → Nat → Prop} (h : Raw C f vs H n Q) (k : ∀ rs H' n', Q rs H' n' → Q' rs H' n') : Raw C f vs H n Q' :=
 let ⟨rs, H1, n1, h1, h2⟩ := h; ⟨rs, H1, n1, h1, k _ _ _ h2⟩
section
variable {C : Cfg} {gs : Nat → AV} {hom : Hs} {nx : Nat} {q : Bool} {ops : Array Oper} {rest : List Oper} {R : St → Prop} {acc : List Ft} {pz : List (Nat × Nat)}
variable {dst : Option Tmp} {ty : TypeId} {ps : String} {af : Array Edge} {g : Option (Nat × Bool)} {t u : TypeId} {x y z : Operand} {v : AV} {ρ : Type} {r : ρ} {L : List Item}
theorem L3 {k e : TypeId} (hm : qB C t = some (k, e)) : opV C (ev C ⟨gs, hom, nx⟩) (.makeMap t none) hom nx = some (.mp nx, upd hom nx (.map []), nx + 1) := by
 rw [bW (fun _ _ _ h => by cases h)]; simp [act, hm]
theorem L4 {k e : TypeId} (hw : am ops gs ⟨dst, .makeMap t none, ty, ps, af, g⟩ = some true) (hm : qB C t = some (k, e)) (hH : HP hom nx L)
  (h : ∀ id H' n', HP H' n' (.mp id [] :: L) → EW false C ops rest ⟨aK gs dst (.mp id), H', n'⟩ R) : EW false C ops (⟨dst, .makeMap t none, ty, ps, af, g⟩ :: rest) ⟨gs, hom, nx⟩ R :=
 cm hw (L3 hm) (by simp) (h _ _ _ (hH.new rfl (by simp [Item.ok, upd])))
theorem Mb {κ ν : Type} [DecidableEq κ] {eK : κ → Dat} {eV : ν → Dat} {l : List (κ × ν)} {key : κ} {zv : ν} {k e : TypeId} {id j : Nat} {ok : Bool} (hs : ∀ a b, lq (eK a) (eK b) = some (decide (a = b))) (hm : qB C t = some (k, e)) (hk : ∀ a, rj C k (eK a) = true)
  (hz : cw C e = some (eV zv)) (hH : HP hom nx L) (hj : L[j]? = some (.mp id (eM eK eV l))) (hx : ev C ⟨gs, hom, nx⟩ x = .mp id) (hy : ev C ⟨gs, hom, nx⟩ y = .d (eK key)) :
  opV C (ev C ⟨gs, hom, nx⟩) (.lookup t x y ok) hom nx = some (if ok then .tup [.d (eV ((pj l key).getD zv)), .d (.bool (pj l key).isSome)] else .d (eV ((pj l key).getD zv)), hom, nx) := by
 have h1 : hom id = .map (eM eK eV l) := hH.get hj
 rw [bW (fun _ _ _ h => by cases h)]
 simp only [act, oZ, hx, hy, dN, hm, h1, hk, if_true, hz, uh hs, pj]
 cases mA key l 0 <;> simp
theorem L5 {κ ν : Type} [DecidableEq κ] {eK : κ → Dat} {eV : ν → Dat} {l : List (κ × ν)} {key : κ} {zv : ν} {k e : TypeId} {id j : Nat} (hw : am ops gs ⟨dst, .lookup t x y true, ty, ps, af, g⟩ = some true) (hs : ∀ a b, lq (eK a) (eK b) = some (decide (a = b))) (hm : qB C t = some (k, e)) (hk : ∀ a, rj C k (eK a) = true)
  (hz : cw C e = some (eV zv)) (hH : HP hom nx L) (hj : L[j]? = some (.mp id (eM eK eV l))) (hx : ev C ⟨gs, hom, nx⟩ x = .mp id) (hy : ev C ⟨gs, hom, nx⟩ y = .d (eK key))
  (h : EW q C ops rest ⟨aK gs dst (.tup [.d (eV ((pj l key).getD zv)), .d (.bool (pj l key).isSome)]), hom, nx⟩ R) : EW q C ops (⟨dst, .lookup t x y true, ty, ps, af, g⟩ :: rest) ⟨gs, hom, nx⟩ R :=
 cm hw (Mb (ok := true) hs hm hk hz hH hj hx hy) (fun _ => ⟨rfl, rfl⟩) h
theorem Mc {κ ν : Type} [DecidableEq κ] {eK : κ → Dat} {eV : ν → Dat} {l : List (κ × ν)} {key : κ} {w : ν} {k e : TypeId} {id j : Nat} (vz : AV) {L' : List Item} (hw : am ops gs ⟨dst, .mapUpdate t x y z, ty, ps, af, g⟩ = some true) (hs : ∀ a b, lq (eK a) (eK b) = some (decide (a = b))) (hm : qB C t = some (k, e)) (hk : ∀ a, rj C k (eK a) = true)
  (hz : ev C ⟨gs, hom, nx⟩ z = vz) (hf : FS 3 hom nx [vz] [eV w] L') (hj : L'[j]? = some (.mp id (eM eK eV l))) (hx : ev C ⟨gs, hom, nx⟩ x = .mp id) (hy : ev C ⟨gs, hom, nx⟩ y = .d (eK key))
  (h : ∀ H', HP H' nx (L'.set j (.mp id (eM eK eV (yk l key w)))) → EW false C ops rest ⟨aK gs dst .undef, H', nx⟩ R) : EW false C ops (⟨dst, .mapUpdate t x y z, ty, ps, af, g⟩ :: rest) ⟨gs, hom, nx⟩ R := by
 obtain ⟨H1, h8, hH⟩ := hf
 have h9 : frz 4 hom vz = some (eV w, H1) := by
  rw [cg] at h8
  revert h8
  cases hv : frz (3 + 1) hom vz with
  | none => intro h8; cases h8
  | some p => intro h8; simp only [cg, Option.some.injEq, Prod.mk.injEq, List.cons.injEq, and_true] at h8; rw [← h8.1, ← h8.2]
 have h1 : H1 id = .map (eM eK eV l) := hH.get hj
 refine cm hw (v := .undef) (H1 := upd H1 id (.map (eM eK eV (yk l key w)))) (n1 := nx) ?_ (by simp) (h _ (((hH.pick j hj).write (a := .mp id (eM eK eV l)) (by simp [Item.live]) rfl (by simp [Item.ok, upd])).perm (nb _ _ _ _ hj)))
 rw [bW (fun _ _ _ h => by cases h)]
 simp only [act, rB, hx, hy, dN, hm, hz, h9, h1, hk, if_true, Gs hs, Option.map_some]
theorem DH {α : Type} {enc : α → Dat} {l : List α} {A M : Int} {k : List α → Option ρ} {lo hi : Option Operand} {el : TypeId} {m : Nat} {a : Bool} {L : List Item} {j : Nat} {w : AV} (hm : ((cut l A M) >>= k) = some r) (hw : am ops gs ⟨dst, .slice t x lo hi none, ty, ps, af, g⟩ = some true)
  (he : cd C t = some el) (hz : szg C el = some (m, a)) (hH : HP hom nx L) (hj : L[j]? = some (.imm w ⟨el, m⟩ (l.map enc))) (hx : ev C ⟨gs, hom, nx⟩ x = w) (hb : LH l.length (lo.map (ev C ⟨gs, hom, nx⟩)) (hi.map (ev C ⟨gs, hom, nx⟩)) A M)
  (h : ∀ v w', k v = some r → HP hom nx (.imm w' ⟨el, m⟩ (v.map enc) :: L) → EX C ops rest ⟨aK gs dst w', hom, nx⟩ (.of (aH w) [] :: acc) pz R) : EX C ops (⟨dst, .slice t x lo hi none, ty, ps, af, g⟩ :: rest) ⟨gs, hom, nx⟩ acc pz R := by
 obtain ⟨v, h1, h2⟩ := Option.bind_eq_some_iff.1 hm
 unfold cut at h1
 obtain ⟨ye, h3, h4⟩ := jl he
 have hadd : ∀ w' xs, (Item.imm w' ⟨el, m⟩ xs).ok hom → (∀ i ∈ aH w', i < nx) → HP hom nx (.imm w' ⟨el, m⟩ xs :: L) := fun w' xs hk hi => ⟨by rw [List.flatMap_cons]; simpa [Item.live] using hH.nd, fun it hit => by
  rcases List.mem_cons.1 hit with rfl | hit
  ·exact hk
  ·exact hH.ok it hit, fun it hit i hm => by
  rcases List.mem_cons.1 hit with rfl | hit
  ·exact hi i hm
  ·exact hH.lt it hit i hm⟩
 split at h1
 ·rename_i h0
  cases h1
  have hlh := hb h0.1 h0.2.1 h0.2.2
  rcases hH.get hj with ⟨h5, h6⟩ | ⟨id, p, zs, h5, h6, h7, h8⟩
  ·simp only [List.map_eq_nil_iff] at h6
   subst h6
   refine bi (v := .nil) (H1 := hom) (n1 := nx) (.of (aH w) []) hw (lu ?_) ⟨by simp only [bE, hx], rfl⟩ (h _ _ h2 (hadd _ _ (.inl ⟨rfl, by simp⟩) (by simp [aH])))
   simp only [List.length_nil] at hlh
   simp only [gr, h3, h4, hx, h5, Bool.false_eq_true, if_false, (bp hz).1, Option.isSome_some, if_true, hlh]
   rfl
  ·rw [List.length_map] at h5 h7 h8
   have hlen : (List.take (M.toNat - A.toNat) (List.drop A.toNat l)).length = M.toNat - A.toNat := by simp; omega
   refine bi (v := .sl id (p + A.toNat) (p + M.toNat)) (H1 := hom) (n1 := nx) (.of (aH w) []) hw (lu ?_) ⟨by simp only [bE, hx], rfl⟩ (h _ _ h2 (hadd _ _ (.inr ⟨id, p + A.toNat, zs, ?_, h6, ?_, ?_⟩) ?_))
   ·have hsz : nR (hom id) (some m) = true := by simp [nR, h6, ud]
    simp only [gr, h3, h4, hx, h5, Bool.false_eq_true, if_false, (bp hz).1, hsz, if_true, Nat.add_sub_cancel_left, hlh]
    rfl
   ·rw [List.length_map, hlen]; congr 1; omega
   ·rw [List.length_map, hlen]; omega
   ·rw [List.length_map, hlen]
    have e : List.map enc (List.take (M.toNat - A.toNat) (List.drop A.toNat l)) = List.take (M.toNat - A.toNat) (List.drop A.toNat (win zs p (p + l.length))) := by rw [h8, List.map_take, List.map_drop]
    rw [e]
    simp only [win]
    rw [List.drop_take, List.take_take, List.drop_drop]
    congr 1
    omega
   ·intro i hi'
    simp only [aH, List.mem_singleton] at hi'
    subst hi'
    exact hH.lt _ (List.mem_of_getElem? hj) _ (by simp [Item.ids, h5, aH])
 ·cases h1
theorem IX {α : Type} {enc : α → Dat} {e : α} (v : AV) {el m : Nat} {a : Bool} {zs : List AV} {o : Operand} {L : List Item} (hw : am ops gs ⟨dst, .buildSlice t 1 #[(0, o)], ty, ps, af, g⟩ = some true)
  (he : cd C t = some el) (hz : szg C el = some (m, a)) (hy : (C.ty el).map (·.zero) = some zs) (h0 : 0 < m ∧ 1 * m ≤ 16777216) (hZ : ∃ z, cw C el = some z ∧ z.cells.length = m ∧ (z.cells.map AV.d).all okC = true) (hc : ∀ v, (enc v).cells.length = m) (hk : ∀ v, ((enc v).cells.map AV.d).all okC = true)
  (h1 : ev C ⟨gs, hom, nx⟩ o = v) (h2 : FS 3 hom nx [v] [enc e] L)
  (h : ∀ w id H' n', HP H' n' (.own w ⟨el, m⟩ ([e].map enc) :: L) → Off L [] id → nx ≤ id ∧ n' = id + 1 → aH w = [id] → EX C ops rest ⟨aK gs dst w, H', n'⟩ (CC :: acc) pz R) : EX C ops (⟨dst, .buildSlice t 1 #[(0, o)], ty, ps, af, g⟩ :: rest) ⟨gs, hom, nx⟩ acc pz R := by
 obtain ⟨zd, h3, h4, h5⟩ := hZ
 obtain ⟨yt, h6, rfl⟩ := Option.map_eq_some_iff.1 hy
 have h7 : yt.size = m := by have := (bp hz).1; simpa [bP, h6] using this
 obtain ⟨H1, h8, hH⟩ := h2
 have h9 : frz 4 hom v = some (enc e, H1) := by
  rw [cg] at h8
  revert h8
  cases hv : frz (3 + 1) hom v with
  | none => intro h8; cases h8
  | some p => intro h8; simp only [cg, Option.some.injEq, Prod.mk.injEq, List.cons.injEq, and_true] at h8; rw [← h8.1, ← h8.2]
 have hp' : HP (upd H1 nx (.own ⟨el, m⟩ ([e].map enc))) (nx + 1) (.own (.sl nx 0 1) ⟨el, m⟩ ([e].map enc) :: L) :=
  hH.new (by simp [Item.ids, aH]) (.inr ⟨nx, [], by simp, by simp [upd]⟩)
 refine zk (v := .sl nx 0 1) (H1 := upd H1 nx (.own ⟨el, m⟩ ([e].map enc))) (n1 := nx + 1) CC hw ((xP rfl).trans ?_) ⟨fun _ _ => trivial, fun _ _ => trivial⟩ (h _ nx _ _ hp' ⟨fun it hi i hm => ⟨by simp, hH.lt it hi i hm⟩, by simp⟩ ⟨Nat.le_refl _, rfl⟩ rfl)
 rw [bW (fun _ _ _ h => by cases h)]
 simp only [act, he, h3, h6, h7]
 rw [if_pos ⟨h4, h5, h0.1, h0.2⟩]
 simp only [List.map_cons, List.map_nil, h1]
 rw [show List.replicate 1 zd = [zd] from rfl, rn h9 (hc e) (hk e)]
def Ey : AV → Bool
 | .d _ | .nil | .undef => true
 | .agg cs => cs.all fun | .d _ | .nil | .undef => true | _ => false
 | _ => false
theorem AO {v : AV} (h : Ey v = true) : ∀ i, ¬ fT i v := by
 intro i hm
 cases hm with
 | sl lo hi => cases h
 | pt off => cases h
 | pe a b => cases h
 | mp => cases h
 | agg cs c hc hm =>
  have := List.all_eq_true.1 h c hc
  cases hm <;> cases this
 | tup cs c hc hm => cases h
 | fn f cs c hc hm => cases h
theorem jK {α : Type} {enc : α → Dat} {e : α} (v : AV) {el m : Nat} {a : Bool} {zs : List AV} {o : Operand} {L : List Item} (hw : am ops gs ⟨dst, .buildSlice t 1 #[(0, o)], ty, ps, af, g⟩ = some true)
  (he : cd C t = some el) (hz : szg C el = some (m, a)) (hy : (C.ty el).map (·.zero) = some zs) (h0 : 0 < m ∧ 1 * m ≤ 16777216) (hZ : ∃ z, cw C el = some z ∧ z.cells.length = m ∧ (z.cells.map AV.d).all okC = true) (hc : ∀ v, (enc v).cells.length = m) (hk : ∀ v, ((enc v).cells.map AV.d).all okC = true)
  (h1 : ev C ⟨gs, hom, nx⟩ o = v) (h2 : FS 3 hom nx [v] [enc e] L) (hn : Ey v = true)
  (h : ∀ w id H' n', HP H' n' (.own w ⟨el, m⟩ ([e].map enc) :: L) → Off L [] id → nx ≤ id ∧ n' = id + 1 → aH w = [id] → EX C ops rest ⟨aK gs dst w, H', n'⟩ (.of [] [id] :: acc) pz R) : EX C ops (⟨dst, .buildSlice t 1 #[(0, o)], ty, ps, af, g⟩ :: rest) ⟨gs, hom, nx⟩ acc pz R := by
 obtain ⟨zd, h3, h4, h5⟩ := hZ
 obtain ⟨yt, h6, rfl⟩ := Option.map_eq_some_iff.1 hy
 have h7 : yt.size = m := by have := (bp hz).1; simpa [bP, h6] using this
 obtain ⟨H1, h8, hH⟩ := h2
 have h9 : frz 4 hom v = some (enc e, H1) := by
  rw [cg] at h8
  revert h8
  cases hv : frz (3 + 1) hom v with
  | none => intro h8; cases h8
  | some p => intro h8; simp only [cg, Option.some.injEq, Prod.mk.injEq, List.cons.injEq, and_true] at h8; rw [← h8.1, ← h8.2]
 have hp' : HP (upd H1 nx (.own ⟨el, m⟩ ([e].map enc))) (nx + 1) (.own (.sl nx 0 1) ⟨el, m⟩ ([e].map enc) :: L) :=
  hH.new (by simp [Item.ids, aH]) (.inr ⟨nx, [], by simp, by simp [upd]⟩)
 have no : ∀ i, ¬ aX hom [v] i := fun i hi => aX.sub (X := fun _ => False) (fun _ _ _ _ hx => hx.elim) (fun u hu j hm => by rw [List.mem_singleton.mp hu] at hm; exact AO hn j hm) i hi
 refine zk (v := .sl nx 0 1) (H1 := upd H1 nx (.own ⟨el, m⟩ ([e].map enc))) (n1 := nx + 1) (.of [] [nx]) hw ((xP rfl).trans ?_) ?_ (h _ nx _ _ hp' ⟨fun it hi i hm => ⟨by simp, hH.lt it hi i hm⟩, by simp⟩ ⟨Nat.le_refl _, rfl⟩ rfl)
 ·rw [bW (fun _ _ _ h => by cases h)]
  simp only [act, he, h3, h6, h7]
  rw [if_pos ⟨h4, h5, h0.1, h0.2⟩]
  simp only [List.map_cons, List.map_nil, h1]
  rw [show List.replicate 1 zd = [zd] from rfl, rn h9 (hc e) (hk e)]
 ·simp only [bE]
  split
  ·exact ⟨fun _ h => h, fun _ h => h⟩
  ·simp only [List.map_cons, List.map_nil, h1]
   exact ⟨fun i h => (no i h).elim, fun i h => h.elim (fun e => by simp [Ft.of, e]) fun h => (no i h).elim⟩
theorem IY {α : Type} {enc : α → Dat} {e : α} (pre post : List AV) (w0 : AV) {el m : Nat} {a : Bool} {zs : List AV} {o : Operand} {L : List Item} {z0 : Row} {xs0 : List Dat} (hw : am ops gs ⟨dst, .buildSlice t 1 #[(0, o)], ty, ps, af, g⟩ = some true)
  (he : cd C t = some el) (hz : szg C el = some (m, a)) (hy : (C.ty el).map (·.zero) = some zs) (h0 : 0 < m ∧ 1 * m ≤ 16777216) (hZ : ∃ z, cw C el = some z ∧ z.cells.length = m ∧ (z.cells.map AV.d).all okC = true) (hc : ∀ v, (enc v).cells.length = m) (hk : ∀ v, ((enc v).cells.map AV.d).all okC = true)
  (h1 : ev C ⟨gs, hom, nx⟩ o = .agg (pre ++ w0 :: post)) (hH0 : HP hom nx (.own w0 z0 xs0 :: L)) (h2 : FS 3 hom nx [.agg (pre ++ w0 :: post)] [enc e] (.imm w0 z0 xs0 :: L)) (hp1 : Ey (.agg pre) = true) (hp2 : Ey (.agg post) = true)
  (h : ∀ w id H' n', HP H' n' (.own w ⟨el, m⟩ ([e].map enc) :: .imm w0 z0 xs0 :: L) → Off L (aH w0) id → nx ≤ id ∧ n' = id + 1 → aH w = [id] → EX C ops rest ⟨aK gs dst w, H', n'⟩ (tD (aH w0) id (id + 1) :: acc) pz R) : EX C ops (⟨dst, .buildSlice t 1 #[(0, o)], ty, ps, af, g⟩ :: rest) ⟨gs, hom, nx⟩ acc pz R := by
 obtain ⟨zd, h3, h4, h5⟩ := hZ
 obtain ⟨yt, h6, rfl⟩ := Option.map_eq_some_iff.1 hy
 have h7 : yt.size = m := by have := (bp hz).1; simpa [bP, h6] using this
 obtain ⟨H1, h8, hH⟩ := h2
 have h9 : frz 4 hom (.agg (pre ++ w0 :: post)) = some (enc e, H1) := by
  rw [cg] at h8
  revert h8
  cases hv : frz (3 + 1) hom (.agg (pre ++ w0 :: post)) with
  | none => intro h8; cases h8
  | some p => intro h8; simp only [cg, Option.some.injEq, Prod.mk.injEq, List.cons.injEq, and_true] at h8; rw [← h8.1, ← h8.2]
 have hp' : HP (upd H1 nx (.own ⟨el, m⟩ ([e].map enc))) (nx + 1) (.own (.sl nx 0 1) ⟨el, m⟩ ([e].map enc) :: .imm w0 z0 xs0 :: L) :=
  hH.new (by simp [Item.ids, aH]) (.inr ⟨nx, [], by simp, by simp [upd]⟩)
 have hown := hH0.get (i := 0) rfl
 have hids : ∀ i ∈ aH w0, (∃ ys, hom i = .own z0 (xs0 ++ ys)) ∧ i < nx := by
  intro i hi
  rcases hown with ⟨rfl, _⟩ | ⟨id, ys, rfl, hid⟩
  ·simp [aH] at hi
  ·simp [aH] at hi; subst hi
   exact ⟨⟨ys, hid⟩, hH0.lt _ List.mem_cons_self _ (by simp [Item.ids, aH])⟩
 have hment : ∀ i, fT i (.agg (pre ++ w0 :: post)) → i ∈ aH w0 := by
  intro i hm
  cases hm with
  | agg cs c hc hm =>
   rcases List.mem_append.1 hc with hc | hc
   ·exact absurd (.agg pre c hc hm) (AO hp1 i)
   ·rcases List.mem_cons.1 hc with rfl | hc
    ·rcases hown with ⟨rfl, _⟩ | ⟨id, ys, rfl, _⟩
     ·cases hm
     ·cases hm; simp [aH]
    ·exact absurd (.agg post c hc hm) (AO hp2 i)
 have no : ∀ i, aX hom [.agg (pre ++ w0 :: post)] i → i ∈ aH w0 := aX.sub (X := fun i => i ∈ aH w0) (fun j cs c i hx hb _ _ => by obtain ⟨⟨ys, hy⟩, _⟩ := hids j hx; rw [hy] at hb; cases hb) (fun u hu j hm => by rw [List.mem_singleton.mp hu] at hm; exact hment j hm)
 have hoff : Off L (aH w0) nx := ⟨fun it hi i hm => ⟨fun hc => hH0.apart (by simpa [Item.live] using hc) it hi hm, hH0.lt it (List.mem_cons_of_mem _ hi) i hm⟩, fun i hi => (hids i hi).2⟩
 refine zk (v := .sl nx 0 1) (H1 := upd H1 nx (.own ⟨el, m⟩ ([e].map enc))) (n1 := nx + 1) (tD (aH w0) nx (nx + 1)) hw ((xP rfl).trans ?_) ?_ (h _ nx _ _ hp' hoff ⟨Nat.le_refl _, rfl⟩ rfl)
 ·rw [bW (fun _ _ _ h => by cases h)]
  simp only [act, he, h3, h6, h7]
  rw [if_pos ⟨h4, h5, h0.1, h0.2⟩]
  simp only [List.map_cons, List.map_nil, h1]
  rw [show List.replicate 1 zd = [zd] from rfl, rn h9 (hc e) (hk e)]
 ·simp only [bE]
  split
  ·exact ⟨fun _ h => absurd h (by simp [Ft.of]), fun i h => by simp [Ft.of] at h; subst h; exact .inr ⟨Nat.le_refl _, Nat.lt_succ_self _⟩⟩
  ·simp only [List.map_cons, List.map_nil, h1]
   exact ⟨fun i h => no i h, fun i h => h.elim (fun e => .inr ⟨by omega, by omega⟩) fun h => .inl (no i h)⟩
def yl (rd md : List Nat) (lo hi : Nat) : Ft := ⟨fun i => i ∈ rd, fun i => i ∈ md ∨ (lo ≤ i ∧ i < hi)⟩
def OD : Item → Bool | .box _ _ => true | _ => false
theorem uW {β : Type} {m : Option β} {k : β → Option ρ} {fv : Operand} {f : FuncId} {caps : List AV} {args : Array Operand} {ts : Array TypeId} (vs : List AV) {A0 A1 L : List Item} {P : β → List AV → List Item → Prop} (hm : (m >>= k) = some r)
  (hw : am ops gs ⟨dst, .call ⟨.value fv, args, ts⟩, ty, ps, af, g⟩ = some true) (hfn : gP (ev C ⟨gs, hom, nx⟩ fv) = some (f, caps)) (hs : C.sig f = .raw) (ha : args.toList.map (ev C ⟨gs, hom, nx⟩) ++ caps = vs)
  (hP : HP hom nx ((A0 ++ A1) ++ L)) (hv : ∀ v ∈ vs, MC (A0 ++ A1) v) (hb : CB (A0 ++ A1) (A0 ++ A1)) (hre : ∀ it ∈ A0 ++ A1, jr hom vs it) (hbx : A0.all OD = true)
  (hc : ∀ y, m = some y → ∀ H n L', HP H n ((A0 ++ A1) ++ L') → Raw C f vs H n (fun rs H' n' => ∃ As, P y rs As ∧ HP H' n' (As ++ L')))
  (hk : ∀ y rs As, P y rs As → ∀ it ∈ A0, it ∈ As)
  (h : ∀ y rs As H' n', k y = some r → P y rs As → HP H' n' (As ++ L) → tU (A0 ++ A1) L nx → tU A1 (A0 ++ L) nx → nx ≤ n' → EX C ops rest ⟨aK gs dst (dv rs), H', n'⟩ (yl ((A0 ++ A1).flatMap Item.ids) (A1.flatMap Item.ids) nx n' :: acc) pz R) :
  EX C ops (⟨dst, .call ⟨.value fv, args, ts⟩, ty, ps, af, g⟩ :: rest) ⟨gs, hom, nx⟩ acc pz R := by
 obtain ⟨y, h1, h2⟩ := Option.bind_eq_some_iff.1 hm
 obtain ⟨hA, hlt, rs, H1, n1, As, h3, hn, h4, h5⟩ := Dh hP hv hb hre (hc y h1)
 subst ha
 refine KG (v := dv rs) (H1 := iC (aX hom (args.toList.map (ev C ⟨gs, hom, nx⟩) ++ caps)) nx n1 hom H1) (n1 := n1) _ hw ?_ ?_ (h y rs As _ n1 h2 h4 h5 (CA hP) (CA (hP.perm (by rw [← List.append_assoc]; exact List.Perm.append_right _ List.perm_append_comm))) hn)
 ·rw [opF]
  simp only [hfn, hs]
  rw [vQ hlt]
  simp [h3]
 ·have hft : ∀ H2, jp C hom nx n1 H2 (ev C ⟨gs, hom, nx⟩) (.call ⟨.value fv, args, ts⟩) = ⟨aX hom (args.toList.map (ev C ⟨gs, hom, nx⟩) ++ caps), fun i => (aX hom (args.toList.map (ev C ⟨gs, hom, nx⟩) ++ caps) i ∧ H2 i ≠ hom i) ∨ (nx ≤ i ∧ i < n1)⟩ := fun H2 => by simp only [jp, jv, hfn, hs]
  show LeF (jp C hom nx n1 _ _ (.call ⟨.value fv, args, ts⟩)) _
  rw [hft]
  have hin : ∀ i, aX hom (args.toList.map (ev C ⟨gs, hom, nx⟩) ++ caps) i → i ∈ (A0 ++ A1).flatMap Item.ids := fun i hi => let ⟨it, h6, h7⟩ := hA i hi; List.mem_flatMap.2 ⟨it, h6, h7⟩
  refine ⟨hin, fun i hi => hi.imp (fun ⟨hl, hne⟩ => ?_) id⟩
  have := hin i hl
  rw [List.flatMap_append, List.mem_append] at this
  refine this.resolve_left fun h0 => hne ?_
  obtain ⟨it, h6, h7⟩ := List.mem_flatMap.1 h0
  have hib := List.all_eq_true.1 hbx it h6
  cases it with
  | box b cs =>
   have e1 : hom b = .box cs := hP.ok _ (List.mem_append_left _ (List.mem_append_left _ h6))
   have e2 := h5.ok _ (List.mem_append_left _ (hk y rs As h4 _ h6))
   simp [Item.ids] at h7
   subst h7
   rw [e1]; exact e2
  | _ => cases hib
theorem Cd {b lo hi : Nat} {rd md : List Nat} (h : b ∉ md ∧ b < lo) : ¬ fj (.of [b] []) (yl rd md lo hi) := by
 rintro ⟨i, ⟨h1, _⟩ | ⟨h1, h2 | h2⟩⟩
 ·simp [Ft.of] at h1
 ·simp [Ft.of] at h1; subst h1; exact h.1 h2
 ·simp [Ft.of] at h1; subst h1; omega
theorem HV {b lo hi : Nat} {rd md : List Nat} (h : b ∉ md ∧ b < lo) : ¬ fj (yl rd md lo hi) (.of [b] []) := by
 rintro ⟨i, ⟨h1 | h1, h2 | h2⟩ | ⟨_, h2⟩⟩
 ·simp [Ft.of] at h2; subst h2; exact h.1 h1
 ·simp [Ft.of] at h2
 ·simp [Ft.of] at h2; subst h2; omega
 ·simp [Ft.of] at h2
 ·simp [Ft.of] at h2
theorem Md {c d rd md : List Nat} {lo hi : Nat} (h0 : ∀ x ∈ rd, x ∉ d) (h1 : ∀ x ∈ md, x ∉ c ∧ x ∉ d) (h2 : ∀ x ∈ c, ¬ (lo ≤ x ∧ x < hi)) (h3 : ∀ x ∈ d, ¬ (lo ≤ x ∧ x < hi)) : ¬ fj (yl rd md lo hi) (.of c d) := by
 rintro ⟨i, ⟨h | h, k | k⟩ | ⟨h, k⟩⟩
 ·exact (h1 i h).1 k
 ·exact (h1 i h).2 k
 ·exact h2 i k h
 ·exact h3 i k h
 ·exact h0 i h k
theorem IZ {α : Type} {f : α → List AV} {w : A3 α} {el : TypeId} {i : Int} {kd : IntKind} {k : α → Option ρ} {m : Nat} (hm : ((w.get i) >>= k) = some r) (hw : am ops gs ⟨dst, .index t x y, ty, ps, af, g⟩ = some true) (ha : iq C t = some (3, el)) (hz : szg C el = some (m, true))
  (hx : ev C ⟨gs, hom, nx⟩ x = .agg (f w.e0 ++ (f w.e1 ++ f w.e2))) (hl : ∀ v, (f v).length = m) (hy : ev C ⟨gs, hom, nx⟩ y = .d (.int kd i))
  (h : ∀ v, k v = some r → EW q C ops rest ⟨aK gs dst (.agg (f v)), hom, nx⟩ R) : EW q C ops (⟨dst, .index t x y, ty, ps, af, g⟩ :: rest) ⟨gs, hom, nx⟩ R := by
 obtain ⟨v, h1, h2⟩ := Option.bind_eq_some_iff.1 hm
 have key : ∀ j : Int, 0 ≤ j ∧ j < (3 : Nat) → i = j → jP (ev C ⟨gs, hom, nx⟩ x) (j.toNat * m) m true = some (.agg (f v)) → EW q C ops (⟨dst, .index t x y, ty, ps, af, g⟩ :: rest) ⟨gs, hom, nx⟩ R := by
  intro j hj hij hp
  subst hij
  exact CY hw ha hz (fun b hb => by rw [hx] at hb; cases hb) hy hj hp (h v h2)
 have l0 := hl w.e0
 have l1 := hl w.e1
 have l2 := hl w.e2
 unfold A3.get at h1
 split at h1
 ·rename_i e; cases h1
  refine key 0 (by omega) e ?_
  rw [hx]
  have : (List.take m (f w.e0 ++ (f w.e1 ++ f w.e2))) = f w.e0 := by rw [← l0]; simp
  simp [jP, gq, mkA, this, l0]
 ·split at h1
  ·rename_i e; cases h1
   refine key 1 (by omega) e ?_
   rw [hx]
   have : (List.take m (List.drop m (f w.e0 ++ (f w.e1 ++ f w.e2)))) = f w.e1 := by
    have : List.drop m (f w.e0 ++ (f w.e1 ++ f w.e2)) = f w.e1 ++ f w.e2 := by rw [← l0]; simp
    rw [this]; rw [← l1]; simp
   have e2 : Int.toNat 1 * m = m := by simp
   simp only [jP, gq, List.length_append, l0, l1, l2, e2]
   rw [if_pos (by omega)]
   simp [mkA, this]
  ·split at h1
   ·rename_i e; cases h1
    refine key 2 (by omega) e ?_
    rw [hx]
    have : (List.take m (List.drop (2 * m) (f w.e0 ++ (f w.e1 ++ f w.e2)))) = f w.e2 := by
     have e1 : List.drop (2 * m) (f w.e0 ++ (f w.e1 ++ f w.e2)) = f w.e2 := by
      rw [← List.append_assoc]
      have : 2 * m = (f w.e0 ++ f w.e1).length := by simp [l0, l1]; omega
      rw [this]; simp
     rw [e1, List.take_of_length_le (by omega)]
    have e2 : Int.toNat 2 * m = 2 * m := rfl
    simp only [jP, gq, List.length_append, l0, l1, l2, e2]
    rw [if_pos (by omega)]
    simp [mkA, this]
   ·cases h1
theorem Me {H : Hs} {N : Nat} {cs : List AV} {ds : List Dat} (h : ck (see N H) cs = some ds) : see (N + 1) H (.agg cs) = some (.agg ds) := by simp [see, h]
theorem J0 {f : FuncId} {xs rs : List Dat} (h : C.ext f xs = some rs) : aL C f xs = some rs := by rw [aL, h]
def Ce (s : ByteArray) (c : Int) : Option Int := some (firstIdx s c.toNat.toUInt8)
end
end Go.Jv
namespace Go.Jv
class FSz (C : Cfg) (t : TypeId) (m : outParam Nat) (a : outParam Bool) : Prop where out : szg C t = some (m, a)
class FFo (C : Cfg) (t : TypeId) (f : Nat) (off m : outParam Nat) (a : outParam Bool) : Prop where
 out : fo C t f = some (off, m, a)
 ne : m ≠ 0
class FEl (C : Cfg) (t : TypeId) (e : outParam TypeId) : Prop where out : cd C t = some e
class FIn (C : Cfg) (t : TypeId) (k : outParam IntKind) : Prop where out : ∃ s b z, C.ty t = some ⟨.int k, s, b, z⟩
theorem bx {α : Type} {l : List α} {x : α} (i : Nat) (h : l[i]? = some x) : l[i]? = some x := h
def Nb' (_ : AV) : Prop := True
theorem nbf {b : Bool} {v : AV} (_ : v = .d (.bool b)) : Nb' v := trivial
def nbD : Dat → Bool | .bool _ => false | _ => true
def Ma : BinOp → Bool | .add | .sub | .mul | .and | .or | .xor | .andNot => true | _ => false
section
variable {C : Cfg} {s : St} {gs : Nat → AV} {hom : Hs} {nx : Nat} {q : Bool} {ops : Array Oper} {rest : List Oper} {R : St → Prop} {Q : Ex → St → Prop}
variable {dst : Option Tmp} {ty : TypeId} {ps : String} {af : Array Edge} {g : Option (Nat × Bool)} {t u : TypeId} {x y z : Operand} {v : AV}
theorem zL {l : List Item} {i id off : Nat} {cs : List AV} (hw : am ops gs ⟨dst, .load t x, ty, ps, af, g⟩ = some true) [hz : FSz C t 1 false] (hx : ev C ⟨gs, hom, nx⟩ x = .pt id off) (hH : HP hom nx l) (hi : l[i]? = some (.box id cs))
  (hr : (gq cs off 1).bind (mkA false) = some v) (_hn : Nb' v)
  (h : EW q C ops rest ⟨aK gs dst v, hom, nx⟩ R) : EW q C ops (⟨dst, .load t x, ty, ps, af, g⟩ :: rest) ⟨gs, hom, nx⟩ R := aF hw hz.out hH hi hx hr h
theorem zLd {cs : List Dat} {d : Dat} (hw : am ops gs ⟨dst, .load t x, ty, ps, af, g⟩ = some true) [hz : FSz C t 1 false] (hx : ev C ⟨gs, hom, nx⟩ x = .d (.ptr cs)) (hr : (jO cs 0 1).bind (mkD false) = some d) (_hn : nbD d = true)
  (h : EW q C ops rest ⟨aK gs dst (.d d), hom, nx⟩ R) : EW q C ops (⟨dst, .load t x, ty, ps, af, g⟩ :: rest) ⟨gs, hom, nx⟩ R := aR hw hz.out hx hr h
theorem zF {f off m id o o' : Nat} {a : Bool} (hw : am ops gs ⟨dst, .fieldAddr t x f, ty, ps, af, g⟩ = some true) [hf : FFo C t f off m a] (hx : ev C ⟨gs, hom, nx⟩ x = .pt id o) (ho : o + off = o')
  (h : EW q C ops rest ⟨aK gs dst (.pt id o'), hom, nx⟩ R) : EW q C ops (⟨dst, .fieldAddr t x f, ty, ps, af, g⟩ :: rest) ⟨gs, hom, nx⟩ R := Fb hw hf.out hf.ne hx o' ho h
theorem zFe {f off m id i o o' : Nat} {a : Bool} (hw : am ops gs ⟨dst, .fieldAddr t x f, ty, ps, af, g⟩ = some true) [hf : FFo C t f off m a] (hx : ev C ⟨gs, hom, nx⟩ x = .pe id i o) (ho : o + off = o')
  (h : EW q C ops rest ⟨aK gs dst (.pe id i o'), hom, nx⟩ R) : EW q C ops (⟨dst, .fieldAddr t x f, ty, ps, af, g⟩ :: rest) ⟨gs, hom, nx⟩ R := IA hw hf.out hf.ne hx o' ho h
theorem zFd {f off m : Nat} {a : Bool} {d : Dat} (hw : am ops gs ⟨dst, .fieldAddr t x f, ty, ps, af, g⟩ = some true) [hf : FFo C t f off m a] (hr : vE (ev C ⟨gs, hom, nx⟩ x) off = some (.d d))
  (h : EW q C ops rest ⟨aK gs dst (.d d), hom, nx⟩ R) : EW q C ops (⟨dst, .fieldAddr t x f, ty, ps, af, g⟩ :: rest) ⟨gs, hom, nx⟩ R := Iz hw hf.out hf.ne hr h
theorem zB {op : BinOp} {r : Dat} (hw : am ops gs ⟨dst, .binOp op t x y u, ty, ps, af, g⟩ = some true) (_ha : Ma op = true) (hr : qA C op t (ev C ⟨gs, hom, nx⟩ x) (ev C ⟨gs, hom, nx⟩ y) = some r)
  (h : EW q C ops rest ⟨aK gs dst (.d r), hom, nx⟩ R) : EW q C ops (⟨dst, .binOp op t x y u, ty, ps, af, g⟩ :: rest) ⟨gs, hom, nx⟩ R := Wb hw hr h
theorem zC {ka kb k : IntKind} {n : Int} (hw : am ops gs ⟨dst, .convert t u x, ty, ps, af, g⟩ = some true) [ha : FIn C t ka] [hb : FIn C u kb] (hx : ev C ⟨gs, hom, nx⟩ x = .d (.int k n))
  (h : EW q C ops rest ⟨aK gs dst (.d (.int kb (kb.wrap n))), hom, nx⟩ R) : EW q C ops (⟨dst, .convert t u x, ty, ps, af, g⟩ :: rest) ⟨gs, hom, nx⟩ R := by
 obtain ⟨s1, b1, z1, h1⟩ := ha.out
 obtain ⟨s2, b2, z2, h2⟩ := hb.out
 exact Lp hw (hx ▸ pK h1 h2) h
theorem zE {i : Nat} {vs : List AV} (hw : am ops gs ⟨dst, .extract x i, ty, ps, af, g⟩ = some true) (hx : ev C ⟨gs, hom, nx⟩ x = .tup vs) (hr : vs[i]? = some v) (_hn : Nb' v)
  (h : EW q C ops rest ⟨aK gs dst v, hom, nx⟩ R) : EW q C ops (⟨dst, .extract x i, ty, ps, af, g⟩ :: rest) ⟨gs, hom, nx⟩ R := Dv hw hx hr h
theorem zN {α : Type} {enc : α → Dat} {l : List α} {el : TypeId} (hw : am ops gs ⟨dst, .call ⟨.builtin .len, #[x], #[t]⟩, ty, ps, af, g⟩ = some true) [he : FEl C t el] (hx : ev C ⟨gs, hom, nx⟩ x = .d (.lst (l.map enc)))
  (h : EW q C ops rest ⟨aK gs dst (.d (.int .i64 (l.length : Int))), hom, nx⟩ R) : EW q C ops (⟨dst, .call ⟨.builtin .len, #[x], #[t]⟩, ty, ps, af, g⟩ :: rest) ⟨gs, hom, nx⟩ R := KK hw he.out hx h
theorem zNo {α : Type} {enc : α → Dat} {l : List α} {el : TypeId} {L : List Item} {j : Nat} {w : AV} {z : Row} (hw : am ops gs ⟨dst, .call ⟨.builtin .len, #[x], #[t]⟩, ty, ps, af, g⟩ = some true) [he : FEl C t el] (hx : ev C ⟨gs, hom, nx⟩ x = w)
  (hH : HP hom nx L) (hj : L[j]? = some (.own w z (l.map enc)))
  (h : EW q C ops rest ⟨aK gs dst (.d (.int .i64 (l.length : Int))), hom, nx⟩ R) : EW q C ops (⟨dst, .call ⟨.builtin .len, #[x], #[t]⟩, ty, ps, af, g⟩ :: rest) ⟨gs, hom, nx⟩ R := Ig hw he.out hH hj hx h
variable {acc : List Ft} {pz : List (Nat × Nat)}
theorem xMd {d : Dat} (hw : am ops gs ⟨dst, .move x, ty, ps, af, g⟩ = some true) (hx : ev C ⟨gs, hom, nx⟩ x = .d d) (h : EX C ops rest ⟨aK gs dst (.d d), hom, nx⟩ (az :: acc) pz R) :
  EX C ops (⟨dst, .move x, ty, ps, af, g⟩ :: rest) ⟨gs, hom, nx⟩ acc pz R := bi (v := .d d) az hw (hx ▸ uU) ⟨rfl, rfl⟩ h
theorem xMv (hw : am ops gs ⟨dst, .move x, ty, ps, af, g⟩ = some true) (hx : ev C ⟨gs, hom, nx⟩ x = v) (h : EX C ops rest ⟨aK gs dst v, hom, nx⟩ (az :: acc) pz R) :
  EX C ops (⟨dst, .move x, ty, ps, af, g⟩ :: rest) ⟨gs, hom, nx⟩ acc pz R := bi (v := v) az hw (hx ▸ uU) ⟨rfl, rfl⟩ h
theorem xF {f off m id o o' : Nat} {a : Bool} (hw : am ops gs ⟨dst, .fieldAddr t x f, ty, ps, af, g⟩ = some true) [hf : FFo C t f off m a] (hx : ev C ⟨gs, hom, nx⟩ x = .pt id o) (ho : o + off = o')
  (h : EX C ops rest ⟨aK gs dst (.pt id o'), hom, nx⟩ (az :: acc) pz R) : EX C ops (⟨dst, .fieldAddr t x f, ty, ps, af, g⟩ :: rest) ⟨gs, hom, nx⟩ acc pz R :=
 bi (v := .pt id o') az hw (D3 hf.out hf.ne (by rw [hx, ← ho]; rfl)) ⟨rfl, rfl⟩ h
theorem xFd {f off m : Nat} {a : Bool} {d : Dat} (hw : am ops gs ⟨dst, .fieldAddr t x f, ty, ps, af, g⟩ = some true) [hf : FFo C t f off m a] (hr : vE (ev C ⟨gs, hom, nx⟩ x) off = some (.d d))
  (h : EX C ops rest ⟨aK gs dst (.d d), hom, nx⟩ (az :: acc) pz R) : EX C ops (⟨dst, .fieldAddr t x f, ty, ps, af, g⟩ :: rest) ⟨gs, hom, nx⟩ acc pz R :=
 bi (v := .d d) az hw (D3 hf.out hf.ne hr) ⟨rfl, rfl⟩ h
theorem xL {l : List Item} {i id off : Nat} {cs : List AV} (hw : am ops gs ⟨dst, .load t x, ty, ps, af, g⟩ = some true) [hz : FSz C t 1 false] (hx : ev C ⟨gs, hom, nx⟩ x = .pt id off) (hH : HP hom nx l) (hi : l[i]? = some (.box id cs))
  (hr : (gq cs off 1).bind (mkA false) = some v)
  (h : EX C ops rest ⟨aK gs dst v, hom, nx⟩ (.of [id] [] :: acc) pz R) : EX C ops (⟨dst, .load t x, ty, ps, af, g⟩ :: rest) ⟨gs, hom, nx⟩ acc pz R := by
 refine bi (v := v) (.of [id] []) hw (dR hz.out hH hi hx hr) ⟨?_, rfl⟩ h
 simp [bE, hx, aH]
theorem xLd {cs : List Dat} {d : Dat} (hw : am ops gs ⟨dst, .load t x, ty, ps, af, g⟩ = some true) [hz : FSz C t 1 false] (hx : ev C ⟨gs, hom, nx⟩ x = .d (.ptr cs)) (hr : (jO cs 0 1).bind (mkD false) = some d)
  (h : EX C ops rest ⟨aK gs dst (.d d), hom, nx⟩ (az :: acc) pz R) : EX C ops (⟨dst, .load t x, ty, ps, af, g⟩ :: rest) ⟨gs, hom, nx⟩ acc pz R := by
 refine bi (v := .d d) az hw (vR hz.out hx hr) ⟨?_, rfl⟩ h
 simp [bE, hx, aH, az]
end
section
variable {C : Cfg} {s : St} {q : Bool} {ops : Array Oper} {rest : List Oper} {R : St → Prop} {Q : Ex → St → Prop} {c : Code} {p : Way} {ex : Ex}
variable {dst : Option Tmp} {o : Op} {ty : TypeId} {ps : String} {af : Array Edge} {g : Option (Nat × Bool)} {gg : Nat × Bool} {t u : TypeId} {x y z : Operand} {acc : List Ft} {pz : List (Nat × Nat)} {l : List Oper}
theorem iE (h : EW q C ops l s R) : EW q C ops l s R := h
theorem iX (h : EX C ops l s acc pz R) : EX C ops l s acc pz R := h
theorem iP (h : PAt C c p s Q) : PAt C c p s Q := h
theorem iN (h : con C c Q p.a ex s) : con C c Q p.a ex s := h
theorem iG (h : EW q C ops (⟨dst, o, ty, ps, af, some gg⟩ :: rest) s R) : EW q C ops (⟨dst, o, ty, ps, af, some gg⟩ :: rest) s R := h
theorem iMv (h : EW q C ops (⟨dst, .move x, ty, ps, af, g⟩ :: rest) s R) : EW q C ops (⟨dst, .move x, ty, ps, af, g⟩ :: rest) s R := h
theorem iAs (h : EW q C ops (⟨dst, .assign x, ty, ps, af, g⟩ :: rest) s R) : EW q C ops (⟨dst, .assign x, ty, ps, af, g⟩ :: rest) s R := h
theorem iLd (h : EW q C ops (⟨dst, .load t x, ty, ps, af, g⟩ :: rest) s R) : EW q C ops (⟨dst, .load t x, ty, ps, af, g⟩ :: rest) s R := h
theorem iFa {f : Nat} (h : EW q C ops (⟨dst, .fieldAddr t x f, ty, ps, af, g⟩ :: rest) s R) : EW q C ops (⟨dst, .fieldAddr t x f, ty, ps, af, g⟩ :: rest) s R := h
theorem iPk (h : EW q C ops (⟨dst, .pick x y z, ty, ps, af, g⟩ :: rest) s R) : EW q C ops (⟨dst, .pick x y z, ty, ps, af, g⟩ :: rest) s R := h
theorem iBi {op : BinOp} (h : EW q C ops (⟨dst, .binOp op t x y u, ty, ps, af, g⟩ :: rest) s R) : EW q C ops (⟨dst, .binOp op t x y u, ty, ps, af, g⟩ :: rest) s R := h
theorem iCv (h : EW q C ops (⟨dst, .convert t u x, ty, ps, af, g⟩ :: rest) s R) : EW q C ops (⟨dst, .convert t u x, ty, ps, af, g⟩ :: rest) s R := h
theorem iEt {i : Nat} (h : EW q C ops (⟨dst, .extract x i, ty, ps, af, g⟩ :: rest) s R) : EW q C ops (⟨dst, .extract x i, ty, ps, af, g⟩ :: rest) s R := h
theorem iNc (h : EW q C ops (⟨dst, .nilCheck x, ty, ps, af, g⟩ :: rest) s R) : EW q C ops (⟨dst, .nilCheck x, ty, ps, af, g⟩ :: rest) s R := h
theorem iLn (h : EW q C ops (⟨dst, .call ⟨.builtin .len, #[x], #[t]⟩, ty, ps, af, g⟩ :: rest) s R) : EW q C ops (⟨dst, .call ⟨.builtin .len, #[x], #[t]⟩, ty, ps, af, g⟩ :: rest) s R := h
theorem jLd (h : EX C ops (⟨dst, .load t x, ty, ps, af, g⟩ :: rest) s acc pz R) : EX C ops (⟨dst, .load t x, ty, ps, af, g⟩ :: rest) s acc pz R := h
theorem jFa {f : Nat} (h : EX C ops (⟨dst, .fieldAddr t x f, ty, ps, af, g⟩ :: rest) s acc pz R) : EX C ops (⟨dst, .fieldAddr t x f, ty, ps, af, g⟩ :: rest) s acc pz R := h
theorem jMv (h : EX C ops (⟨dst, .move x, ty, ps, af, g⟩ :: rest) s acc pz R) : EX C ops (⟨dst, .move x, ty, ps, af, g⟩ :: rest) s acc pz R := h
end
theorem nco {a b c d : List Nat} (h1 : ∀ x ∈ b, x ∉ c := by grind [aH]) (h2 : ∀ x ∈ b, x ∉ d := by grind [aH]) (h3 : ∀ x ∈ a, x ∉ d := by grind [aH]) : ¬ fj (.of a b) (.of c d) := OF h1 h2 h3
theorem HT {ids c d : List Nat} {lo hi : Nat} (h1 : ∀ x ∈ ids, x ∉ c ∧ x ∉ d := by simp only [List.flatMap_cons, List.flatMap_nil, List.append_nil, Item.ids] at *; grind [aH]) (h2 : ∀ x ∈ c, ¬ (lo ≤ x ∧ x < hi) := by simp only [List.flatMap_cons, List.flatMap_nil, List.append_nil, Item.ids] at *; grind [aH]) (h3 : ∀ x ∈ d, ¬ (lo ≤ x ∧ x < hi) := by simp only [List.flatMap_cons, List.flatMap_nil, List.append_nil, Item.ids] at *; grind [aH]) : ¬ fj (tD ids lo hi) (.of c d) := KH h1 h2 h3
theorem HU {c d rd md : List Nat} {lo hi : Nat} (h0 : ∀ x ∈ rd, x ∉ d := by simp only [List.flatMap_cons, List.flatMap_nil, List.append_nil, List.cons_append, List.nil_append, Item.ids] at *; grind [aH]) (h1 : ∀ x ∈ md, x ∉ c ∧ x ∉ d := by simp only [List.flatMap_cons, List.flatMap_nil, List.append_nil, List.cons_append, List.nil_append, Item.ids] at *; grind [aH]) (h2 : ∀ x ∈ c, ¬ (lo ≤ x ∧ x < hi) := by simp only [List.flatMap_cons, List.flatMap_nil, List.append_nil, List.cons_append, List.nil_append, Item.ids] at *; grind [aH]) (h3 : ∀ x ∈ d, ¬ (lo ≤ x ∧ x < hi) := by simp only [List.flatMap_cons, List.flatMap_nil, List.append_nil, List.cons_append, List.nil_append, Item.ids] at *; grind [aH]) : ¬ fj (yl rd md lo hi) (.of c d) := Md h0 h1 h2 h3
theorem pk {acc : List Ft} {n i j : Nat} {f f' : Ft} {pz : List (Nat × Nat)} (ha : acc.reverse[j]? = some f) (hb : acc.reverse[i]? = some f') (hc : ¬ fj f f') (h : PK acc n pz) : PK acc n ((j, i) :: pz) := by
 intro hn p hp x y hx hy
 rcases List.mem_cons.1 hp with rfl | hp
 ·simp only at hx hy
  rw [ha] at hx; rw [hb] at hy
  cases hx; cases hy; exact hc
 ·exact h hn p hp x y hx hy
theorem xn {C : Cfg} {ops : Array Oper} {s : St} {acc : List Ft} {pz : List (Nat × Nat)} {R : St → Prop} (hp : PK acc acc.length pz) (h : R s) : EX C ops [] s acc pz R := OE rfl hp h
section
variable {C : Cfg} {c : Code} {p : Way} {Q : Ex → St → Prop}
theorem uj {α : Type} {X g : Nat → α} {i : Nat} {v : α} (h : X = g) (hv : g i = v) : upd X i v = g := by
 subst h; funext j; unfold upd; split
 ·rename_i e; rw [e, hv]
 ·rfl
theorem J {g : Nat → AV} {H : Hs} {n : Nat} {F : (Nat → AV) → Nat → AV} (h : ∀ g, PAt C c p ⟨F g, H, n⟩ Q) (e : F g = g := by repeat (first | with_reducible exact rfl | refine uj ?_ rfl)) : PAt C c p ⟨g, H, n⟩ Q := by
 have := h g
 rwa [e] at this
theorem HP.sl {H : Hs} {n : Nat} {L L' : List Item} (hH : HP H n L) (k : Nat) (is : List Nat) (hg : uk L k is L' := by repeat (first | exact gt rfl | refine gc rfl ?_)) (hn : is.Nodup := by decide) (hk : ∀ i ∈ is, i < k := by decide) : HP H n L' := hH.selG k is hn hk hg
end
theorem si {α : Type} {a b : α} (h : some a = some b) : a = b := Option.some.inj h
theorem if0 {α : Type} {a b r : α} (h : (if false = true then a else b) = r) : b = r := h
theorem if1 {α : Type} {a b r : α} (h : (if true = true then a else b) = r) : a = r := h
theorem Pq {C : Cfg} {c : Code} {p : Way} {s : St} {F : Func} {rs : List Dat} {vs : List AV} {H' : Hs} (h1 : cF C s F.results.toList = some vs) (h2 : gU s.homes vs = some (rs, H')) (h : sub c p = .ret := by rfl) : PAt C c p s (aq C F rs) := Pt h (Cr (pd (.inl rfl) h1 h2))
theorem Z {P Q : Prop} (k : Q) (h : Q → P := by
 intro k
 repeat (first
  | refine Nb ?_
  | (refine iE ?_; first | refine Wn ?_ | (refine iMv ?_; first | refine Wm rfl rfl ?_ | refine Fa _ rfl (by (conv => lhs; whnf)) ?_) | (refine iG ?_; refine Wk rfl ?_) | (refine iAs ?_; first | refine Wa rfl rfl ?_ | refine BL _ rfl (by (conv => lhs; whnf)) ?_) | (refine iLd ?_; first | refine zL rfl rfl hH (by first | exact bx 0 rfl | exact bx 1 rfl | exact bx 2 rfl | exact bx 3 rfl | exact bx 4 rfl | exact bx 5 rfl | exact bx 6 rfl | exact bx 7 rfl | exact bx 8 rfl | exact bx 9 rfl | exact bx 10 rfl | exact bx 11 rfl | exact bx 12 rfl | exact bx 13 rfl | exact bx 14 rfl | exact bx 15 rfl | exact bx 16 rfl | exact bx 17 rfl | exact bx 18 rfl | exact bx 19 rfl) (by rfl) (by (fail_if_success exact nbf rfl); exact trivial) ?_ | refine zLd rfl rfl rfl rfl ?_) | (refine iFa ?_; first | refine zF rfl rfl (by (conv => lhs; whnf)) ?_ | refine zFd rfl (by rfl) ?_ | refine zFe rfl rfl (by (conv => lhs; whnf)) ?_) | (refine iPk ?_; first | refine Wt rfl rfl rfl ?_ | refine Wf rfl rfl rfl ?_) | (refine iLn ?_; first | refine zN rfl rfl ?_ | refine zNo rfl (by (conv => lhs; whnf)) hH (by first | exact bx 0 rfl | exact bx 1 rfl | exact bx 2 rfl | exact bx 3 rfl | exact bx 4 rfl | exact bx 5 rfl | exact bx 6 rfl | exact bx 7 rfl | exact bx 8 rfl | exact bx 9 rfl | exact bx 10 rfl | exact bx 11 rfl | exact bx 12 rfl | exact bx 13 rfl | exact bx 14 rfl | exact bx 15 rfl | exact bx 16 rfl | exact bx 17 rfl | exact bx 18 rfl | exact bx 19 rfl) ?_) | (refine iNc ?_; first | refine Ae rfl rfl ?_ | refine w_ncheck_d rfl rfl ?_ | refine w_ncheck_pe rfl rfl ?_) | (refine iBi ?_; refine zB rfl rfl rfl ?_) | (refine iEt ?_; refine zE rfl rfl (by rfl) (by (fail_if_success exact nbf rfl); exact trivial) ?_) | (refine iFi ?_; refine zFi rfl (by rfl) (by rfl) ?_) | (refine iCv ?_; refine zC rfl rfl ?_) | (refine iUn ?_; refine zU rfl rfl rfl rfl ?_))
  | (refine iN ?_; first | refine Ns rfl ?_ | refine Nk rfl ?_ | refine Nc rfl ?_ | refine Nl rfl ?_ | refine Xs rfl ?_ | refine Xb rfl ?_ | refine Xl rfl ?_ | refine Kc rfl (by decide) ?_)
  | (refine iP ?_; first | refine Ps rfl ?_ | refine Pr rfl ?_ | refine Pb rfl ?_ | refine Ct rfl rfl ?_ | refine Cf rfl rfl ?_ | refine Pk rfl ?_ | refine Px rfl ?_)
  | (refine iX ?_; first | (refine jFa ?_; first | refine xF rfl rfl (by (conv => lhs; whnf)) ?_ | refine xFd rfl (by rfl) ?_) | (refine jLd ?_; first | refine xL rfl rfl hH (by first | exact bx 0 rfl | exact bx 1 rfl | exact bx 2 rfl | exact bx 3 rfl | exact bx 4 rfl | exact bx 5 rfl | exact bx 6 rfl | exact bx 7 rfl | exact bx 8 rfl | exact bx 9 rfl | exact bx 10 rfl | exact bx 11 rfl | exact bx 12 rfl | exact bx 13 rfl | exact bx 14 rfl | exact bx 15 rfl | exact bx 16 rfl | exact bx 17 rfl | exact bx 18 rfl | exact bx 19 rfl) (by rfl) ?_ | refine xLd rfl rfl rfl ?_) | (refine jMv ?_; first | refine xMd rfl rfl ?_ | refine xMv rfl (by (conv => lhs; whnf)) ?_) | refine xE rfl rfl (by rfl) ?_))
 exact k) : P := h k
theorem Zs {P Q : Prop} (k : Q) (h : Q → P := by
 intro k
 repeat (first
  | refine Nb ?_
  | (refine iE ?_; first | refine Wn ?_ | (refine iMv ?_; first | refine Wm rfl rfl ?_ | refine Fa _ rfl (by (conv => lhs; whnf)) ?_) | (refine iG ?_; refine Wk rfl ?_) | (refine iAs ?_; first | refine Wa rfl rfl ?_ | refine BL _ rfl (by (conv => lhs; whnf)) ?_) | (refine iLd ?_; first | refine zL rfl rfl hH (by first | exact bx 0 rfl | exact bx 1 rfl | exact bx 2 rfl | exact bx 3 rfl | exact bx 4 rfl | exact bx 5 rfl | exact bx 6 rfl | exact bx 7 rfl | exact bx 8 rfl | exact bx 9 rfl | exact bx 10 rfl | exact bx 11 rfl | exact bx 12 rfl | exact bx 13 rfl | exact bx 14 rfl | exact bx 15 rfl | exact bx 16 rfl | exact bx 17 rfl | exact bx 18 rfl | exact bx 19 rfl) (by rfl) (by (fail_if_success exact nbf rfl); exact trivial) ?_ | refine zLd rfl rfl rfl rfl ?_) | (refine iFa ?_; first | refine zF rfl rfl (by (conv => lhs; whnf)) ?_ | refine zFd rfl (by rfl) ?_ | refine zFe rfl rfl (by (conv => lhs; whnf)) ?_) | (refine iPk ?_; first | refine Wt rfl rfl rfl ?_ | refine Wf rfl rfl rfl ?_) | (refine iLn ?_; first | refine zN rfl rfl ?_ | refine zNo rfl (by (conv => lhs; whnf)) hH (by first | exact bx 0 rfl | exact bx 1 rfl | exact bx 2 rfl | exact bx 3 rfl | exact bx 4 rfl | exact bx 5 rfl | exact bx 6 rfl | exact bx 7 rfl | exact bx 8 rfl | exact bx 9 rfl | exact bx 10 rfl | exact bx 11 rfl | exact bx 12 rfl | exact bx 13 rfl | exact bx 14 rfl | exact bx 15 rfl | exact bx 16 rfl | exact bx 17 rfl | exact bx 18 rfl | exact bx 19 rfl) ?_) | (refine iNc ?_; first | refine Ae rfl rfl ?_ | refine w_ncheck_d rfl rfl ?_ | refine w_ncheck_pe rfl rfl ?_) | (refine iBi ?_; refine zB rfl rfl rfl ?_) | (refine iEt ?_; refine zE rfl rfl (by rfl) (by (fail_if_success exact nbf rfl); exact trivial) ?_) | (refine iFi ?_; refine zFi rfl (by rfl) (by rfl) ?_) | (refine iCv ?_; refine zC rfl rfl ?_) | (refine iUn ?_; refine zU rfl rfl rfl rfl ?_))
  | (refine iN ?_; first | refine Nk rfl ?_ | refine Nc rfl ?_ | refine Nl rfl ?_ | refine Xs rfl ?_ | refine Xb rfl ?_ | refine Xl rfl ?_ | refine Kc rfl (by decide) ?_)
  | (refine iP ?_; first | refine Ps rfl ?_ | refine Pr rfl ?_ | refine Pb rfl ?_ | refine Pk rfl ?_ | refine Px rfl ?_))
 first
  | refine Ns rfl ?_
  | refine Ct rfl rfl ?_
  | refine Cf rfl rfl ?_
 exact k) : P := h k
end Go.Jv
