/- Steps of a walk beside a plain function: the rest. -/
import Derived.Test.YtkmbagocakiefaaGreatDoorM1
import Derived.Test.YtkmbagocakiefaaGreatDoorL8
namespace Go.Jv
def pJ (C : Cfg) (t : TypeId) : Bool := match C.ty t with | some y => isAgg y.desc | none => false
section
variable {C : Cfg} {gs : Nat → AV} {hom : Hs} {nx : Nat} {q : Bool} {ops : Array Oper} {rest : List Oper} {R : St → Prop} {Q : Ex → St → Prop}
variable {dst : Option Tmp} {ty : TypeId} {ps : String} {af : Array Edge} {g : Option (Nat × Bool)} {t u : TypeId} {x y z : Operand} {v : AV} {ρ : Type} {r : ρ}
theorem dsc {t : TypeId} {d : TypeDesc} {a b : Nat} {zs : List AV} (h : C.ty t = some ⟨d, a, b, zs⟩) : (C.ty t).map (·.desc) = some d := by rw [h]; rfl
theorem aQ {l : List Item} {zs : List AV} (hw : am ops gs ⟨dst, .alloc t, ty, ps, af, g⟩ = some true) (hy : (C.ty t).map (·.zero) = some zs) (hH : HP hom nx l)
  (h : ∀ id H' n', HP H' n' (.box id zs :: l) → EW false C ops rest ⟨aK gs dst (.pt id 0), H', n'⟩ R) : EW false C ops (⟨dst, .alloc t, ty, ps, af, g⟩ :: rest) ⟨gs, hom, nx⟩ R := by
 obtain ⟨yt, h1, rfl⟩ := Option.map_eq_some_iff.1 hy
 exact KN hw h1 hH h
theorem Et {kd kb : IntKind} {a b : Int} {k : Int → Option ρ} (hm : ((qx kd a b) >>= k) = some r) (hw : am ops gs ⟨dst, .binOp .shr t x y u, ty, ps, af, g⟩ = some true)
  (hx : ev C ⟨gs, hom, nx⟩ x = .d (.int kd a)) (hy : ev C ⟨gs, hom, nx⟩ y = .d (.int kb b)) (h : ∀ v, k v = some r → EW q C ops rest ⟨aK gs dst (.d (.int kd v)), hom, nx⟩ R) : EW q C ops (⟨dst, .binOp .shr t x y u, ty, ps, af, g⟩ :: rest) ⟨gs, hom, nx⟩ R :=
 Ek (f := fun v => .d (.int kd v)) hm hw (fun v hv => C8 (by
  unfold qx at hv
  split at hv
  ·cases hv
  ·rename_i h0; cases hv; rw [hx, hy]; simp [qA, dN, uc, h0])) (fun _ => ⟨rfl, rfl⟩) h
theorem pK {a b : TypeId} {ka kb k : IntKind} {s1 s2 b1 b2 : Nat} {z1 z2 : List AV} (h1 : C.ty a = some ⟨.int ka, s1, b1, z1⟩) (h2 : C.ty b = some ⟨.int kb, s2, b2, z2⟩) {n : Int} : vF C a b (.d (.int k n)) = some (.d (.int kb (kb.wrap n))) := by
 simp [vF, h1, h2]
theorem ir {b : ByteArray} {i : Int} {kd : IntKind} {k : Int → Option ρ} {a1 a2 : Nat} {zs : List AV} (hm : ((fp b i) >>= k) = some r) (hw : am ops gs ⟨dst, .index t x y, ty, ps, af, g⟩ = some true) (hd : C.ty t = some ⟨.string, a1, a2, zs⟩)
  (hx : ev C ⟨gs, hom, nx⟩ x = .d (.str b)) (hy : ev C ⟨gs, hom, nx⟩ y = .d (.int kd i)) (h : ∀ v, k v = some r → EW q C ops rest ⟨aK gs dst (.d (.int .u8 v)), hom, nx⟩ R) : EW q C ops (⟨dst, .index t x y, ty, ps, af, g⟩ :: rest) ⟨gs, hom, nx⟩ R :=
 Ek (f := fun v => .d (.int .u8 v)) hm hw (fun v hv => by
  unfold fp at hv
  split at hv
  ·rename_i h0
   obtain ⟨c, h1, rfl⟩ := Option.map_eq_some_iff.1 hv
   rw [bW (fun _ _ _ h => by cases h)]
   simp only [act, xS, hx, hy, iR, hd]
   rw [if_neg (by omega)]
   simp [h1]
  ·cases hv) (fun _ => ⟨rfl, rfl⟩) h
theorem zj {α : Type} {enc : α → Dat} {l : List α} {i : Int} {kd : IntKind} {gl n : Nat} {el : TypeId} {a : Bool} {k : α → Option ρ} (hm : ((idx l i) >>= k) = some r) (hw : am ops gs ⟨dst, .indexAddr t (.global gl) y, ty, ps, af, g⟩ = some true)
  (ha : iq C t = some (n, el)) (hz : szg C el = some (1, a)) (hg : C.glob gl = some (l.map enc)) (hl : l.length = n) (hy : ev C ⟨gs, hom, nx⟩ y = .d (.int kd i)) (hs : cd C t = none)
  (h : ∀ v, k v = some r → ∀ rest', l.map enc = (l.map enc).take i.toNat ++ enc v :: rest' → EW q C ops rest ⟨aK gs dst (.d (.ptr (enc v :: rest'))), hom, nx⟩ R) : EW q C ops (⟨dst, .indexAddr t (.global gl) y, ty, ps, af, g⟩ :: rest) ⟨gs, hom, nx⟩ R := by
 obtain ⟨v, h1, h2⟩ := Option.bind_eq_some_iff.1 hm
 obtain ⟨h0, h3⟩ := lm h1
 have hlt : i.toNat < l.length := (List.getElem?_eq_some_iff.1 h3).1
 have hd : (l.map enc).drop i.toNat = enc v :: (l.map enc).drop (i.toNat + 1) := by
  rw [List.drop_eq_getElem_cons (by simpa using hlt)]
  have : (l.map enc)[i.toNat]? = some (enc v) := by simp [h3]
  rw [List.getElem?_eq_getElem (by simpa using hlt)] at this
  rw [Option.some.inj this]
 refine cm hw (v := .d (.ptr ((l.map enc).drop i.toNat))) (H1 := hom) (n1 := nx) (ph ?_) (fun _ => ⟨rfl, rfl⟩) ?_
 ·have hev : ev C ⟨gs, hom, nx⟩ (.global gl) = .d (.ptr (l.map enc)) := by simp [ev, hg]
  simp only [dJ, hy, iR, hs, ha, (bp hz).1, hev]
  rw [if_neg (by omega), if_pos (by omega)]
  simp
 ·have hp : aK gs dst (AV.d (Dat.ptr (List.drop i.toNat (l.map enc)))) = aK gs dst (AV.d (Dat.ptr (enc v :: (l.map enc).drop (i.toNat + 1)))) := by rw [hd]
  show EW q C ops rest ⟨aK gs dst (AV.d (Dat.ptr (List.drop i.toNat (l.map enc)))), hom, nx⟩ R
  rw [hp]
  exact h v h2 _ (by rw [← hd, List.take_append_drop])
theorem CY {n m : Nat} {a : Bool} {el : TypeId} {i : Int} {kd : IntKind} (hw : am ops gs ⟨dst, .index t x y, ty, ps, af, g⟩ = some true) (ha : iq C t = some (n, el)) (hz : szg C el = some (m, a))
  (hs : (∀ b, ev C ⟨gs, hom, nx⟩ x ≠ .d (.str b))) (hy : ev C ⟨gs, hom, nx⟩ y = .d (.int kd i)) (hi : 0 ≤ i ∧ i < n) (hr : jP (ev C ⟨gs, hom, nx⟩ x) (i.toNat * m) m a = some v)
  (h : EW q C ops rest ⟨aK gs dst v, hom, nx⟩ R) : EW q C ops (⟨dst, .index t x y, ty, ps, af, g⟩ :: rest) ⟨gs, hom, nx⟩ R := by
 obtain ⟨h1, h2⟩ := bp hz
 refine cm hw (v := v) (H1 := hom) (n1 := nx) ?_ (fun _ => ⟨rfl, rfl⟩) h
 rw [bW (fun _ _ _ h => by cases h)]
 simp only [act, xS, hy, iR]
 rw [if_neg (by omega)]
 simp only [ha, h1, h2]
 rw [if_pos hi.2, hr]
 rfl
theorem Fx {α : Type} {f : α → Dat} {w : A3 α} {a : Bool} {el : TypeId} {i : Int} {kd : IntKind} {k : α → Option ρ} (hm : ((w.get i) >>= k) = some r) (hw : am ops gs ⟨dst, .index t x y, ty, ps, af, g⟩ = some true) (ha : iq C t = some (3, el)) (hz : szg C el = some (1, a))
  (hx : ev C ⟨gs, hom, nx⟩ x = .d (.agg [f w.e0, f w.e1, f w.e2]) ∨ ev C ⟨gs, hom, nx⟩ x = .agg [.d (f w.e0), .d (f w.e1), .d (f w.e2)]) (hy : ev C ⟨gs, hom, nx⟩ y = .d (.int kd i)) (hc : ∀ e, mkD a [f e] = some (f e)) (hc2 : ∀ e, mkA a [.d (f e)] = some (.d (f e)))
  (h : ∀ v, k v = some r → EW q C ops rest ⟨aK gs dst (.d (f v)), hom, nx⟩ R) : EW q C ops (⟨dst, .index t x y, ty, ps, af, g⟩ :: rest) ⟨gs, hom, nx⟩ R := by
 obtain ⟨v, h1, h2⟩ := Option.bind_eq_some_iff.1 hm
 have key : ∀ j : Int, 0 ≤ j ∧ j < (3 : Nat) → i = j → jP (ev C ⟨gs, hom, nx⟩ x) (j.toNat * 1) 1 a = some (.d (f v)) → EW q C ops (⟨dst, .index t x y, ty, ps, af, g⟩ :: rest) ⟨gs, hom, nx⟩ R := by
  intro j hj hij hp
  subst hij
  exact CY hw ha hz (fun b hb => by rcases hx with e | e <;> rw [e] at hb <;> cases hb) hy hj hp (h v h2)
 unfold A3.get at h1
 split at h1
 ·rename_i e; cases h1; exact key 0 (by omega) e (by rcases hx with e | e <;> rw [e] <;> simp [jP, gq, jO, hc, hc2])
 ·split at h1
  ·rename_i e; cases h1; exact key 1 (by omega) e (by rcases hx with e | e <;> rw [e] <;> simp [jP, gq, jO, hc, hc2])
  ·split at h1
   ·rename_i e; cases h1; exact key 2 (by omega) e (by rcases hx with e | e <;> rw [e] <;> simp [jP, gq, jO, hc, hc2])
   ·cases h1
def LH (n : Nat) (lo hi : Option AV) (L Hh : Int) : Prop := 0 ≤ L → L ≤ Hh → Hh ≤ n → ue n lo hi = some (L.toNat, Hh.toNat)
theorem Eu {n : Nat} {L : Int} : LH n (some (.d (.int .i64 L))) none L n := fun h1 h2 _ => by simp only [ue, ri, if_pos h1]; rw [if_pos (by omega)]; simp
theorem iD {n : Nat} {M : Int} : LH n none (some (.d (.int .i64 M))) 0 M := fun h1 h2 h3 => by simp only [ue, ri, if_pos h2]; rw [if_pos (by omega)]; rfl
theorem Or {n : Nat} {L M : Int} : LH n (some (.d (.int .i64 L))) (some (.d (.int .i64 M))) L M := fun h1 h2 h3 => by
 have h4 : 0 ≤ M := by omega
 simp only [ue, ri, if_pos h1, if_pos h4]; rw [if_pos (by omega)]
theorem uR {b : ByteArray} {L M : Int} {k : ByteArray → Option ρ} {lo hi : Option Operand} {a1 a2 : Nat} {zs : List AV} (hm : ((rK b L M) >>= k) = some r) (hw : am ops gs ⟨dst, .slice t x lo hi none, ty, ps, af, g⟩ = some true) (hd : C.ty t = some ⟨.string, a1, a2, zs⟩)
  (hx : ev C ⟨gs, hom, nx⟩ x = .d (.str b)) (hb : LH b.size (lo.map (ev C ⟨gs, hom, nx⟩)) (hi.map (ev C ⟨gs, hom, nx⟩)) L M)
  (h : ∀ v, k v = some r → EW q C ops rest ⟨aK gs dst (.d (.str v)), hom, nx⟩ R) : EW q C ops (⟨dst, .slice t x lo hi none, ty, ps, af, g⟩ :: rest) ⟨gs, hom, nx⟩ R :=
 Ek (f := fun v => .d (.str v)) hm hw (fun v hv => lu (by
  unfold rK at hv
  split at hv
  ·rename_i h0; cases hv; simp [gr, hd, hx, hb h0.1 h0.2.1 h0.2.2]
  ·cases hv)) (fun _ => ⟨rfl, rfl⟩) h
theorem kV {α : Type} {enc : α → Dat} {l : List α} {M : Int} {k : List α → Option ρ} {hi : Option Operand} {el : TypeId} {m : Nat} {a : Bool} {L : List Item} {j : Nat} {w : AV} (hm : ((cut l 0 M) >>= k) = some r) (hw : am ops gs ⟨dst, .slice t x none hi none, ty, ps, af, g⟩ = some true)
  (he : cd C t = some el) (hz : szg C el = some (m, a)) (hH : HP hom nx L) (hj : L[j]? = some (.own w ⟨el, m⟩ (l.map enc))) (hx : ev C ⟨gs, hom, nx⟩ x = w) (hb : LH l.length none (hi.map (ev C ⟨gs, hom, nx⟩)) 0 M)
  (h : ∀ v w' H' n', k v = some r → HP H' n' (L.set j (.own w' ⟨el, m⟩ (v.map enc))) → EW q C ops rest ⟨aK gs dst w', H', n'⟩ R) : EW q C ops (⟨dst, .slice t x none hi none, ty, ps, af, g⟩ :: rest) ⟨gs, hom, nx⟩ R := by
 obtain ⟨v, h1, h2⟩ := Option.bind_eq_some_iff.1 hm
 unfold cut at h1
 obtain ⟨ye, h3, h4⟩ := jl he
 split at h1
 ·rename_i h0
  cases h1
  have hlh := hb h0.1 h0.2.1 h0.2.2
  have hp := hH.pick j hj
  rcases hH.get hj with ⟨h5, h6⟩ | ⟨id, ys, h5, h6⟩
  ·simp only [List.map_eq_nil_iff] at h6
   subst h6
   refine cm hw (v := .nil) (H1 := hom) (n1 := nx) (lu ?_) (fun _ => ⟨rfl, rfl⟩) (h _ _ _ _ h2 ?_)
   ·simp only [List.length_nil] at hlh
    simp only [gr, h3, h4, hx, h5, Bool.false_eq_true, if_false, (bp hz).1, Option.isSome_some, if_true, Option.map_none, hlh]
    rfl
   ·have : (List.take (M.toNat - Int.toNat 0) (List.drop (Int.toNat 0) ([] : List α))) = [] := by simp
    rw [this]
    subst h5
    have e : L.set j (.own .nil ⟨el, m⟩ (([] : List α).map enc)) = L := by
     refine List.ext_getElem? fun i => ?_
     rw [List.getElem?_set]
     split
     ·rename_i e; subst e
      split
      ·exact hj.symm
      ·rename_i hlt; rw [List.getElem?_eq_none (by omega)]
     ·rfl
    rw [e]
    exact hH
  ·rw [List.length_map] at h5
   refine cm hw (v := .sl id 0 M.toNat) (H1 := hom) (n1 := nx) (lu ?_) (fun _ => ⟨rfl, rfl⟩) (h _ _ _ _ h2 ?_)
   ·have hsz : nR (hom id) (some m) = true := by simp [nR, h6, ud]
    simp only [gr, h3, h4, hx, h5, Bool.false_eq_true, if_false, (bp hz).1, hsz, if_true, Option.map_none, Nat.sub_zero, hlh]
    simp
   ·refine HP.perm ?_ (nb _ _ _ _ hj)
    have hlen : (List.take (M.toNat - Int.toNat 0) (List.drop (Int.toNat 0) l)).length = M.toNat := by simp; omega
    refine ⟨?_, ?_, ?_⟩
    ·have := hp.nd
     rw [List.flatMap_cons] at this ⊢
     simpa [Item.live, h5, aH] using this
    ·intro it hit
     rcases List.mem_cons.1 hit with rfl | hit
     ·refine .inr ⟨id, (l.drop M.toNat).map enc ++ ys, by rw [List.length_map, hlen], ?_⟩
      rw [h6, ← List.append_assoc, ← List.map_append]
      simp
     ·exact hp.ok it (List.mem_cons_of_mem _ hit)
    ·intro it hit i hi'
     rcases List.mem_cons.1 hit with rfl | hit
     ·exact hp.lt _ List.mem_cons_self i (by simpa [Item.ids, h5, aH] using hi')
     ·exact hp.lt it (List.mem_cons_of_mem _ hit) i hi'
 ·cases h1
theorem pf {el : TypeId} (hw : am ops gs ⟨dst, .call ⟨.builtin .len, #[x], #[t]⟩, ty, ps, af, g⟩ = some true) (he : cd C t = some el) (hx : ev C ⟨gs, hom, nx⟩ x = .nil)
  (h : EW q C ops rest ⟨aK gs dst (.d (.int .i64 0)), hom, nx⟩ R) : EW q C ops (⟨dst, .call ⟨.builtin .len, #[x], #[t]⟩, ty, ps, af, g⟩ :: rest) ⟨gs, hom, nx⟩ R := by
 obtain ⟨y, h1, h2⟩ := jl he
 exact yW hw (by simp [nc, h1, h2, hx]) h
theorem Ot {kd : IntKind} {a b : Int} {ts : Array TypeId} (hw : am ops gs ⟨dst, .call ⟨.builtin .max, #[x, y], ts⟩, ty, ps, af, g⟩ = some true) (hx : ev C ⟨gs, hom, nx⟩ x = .d (.int kd a)) (hy : ev C ⟨gs, hom, nx⟩ y = .d (.int kd b))
  (h : EW q C ops rest ⟨aK gs dst (.d (.int kd (if b > a then b else a))), hom, nx⟩ R) : EW q C ops (⟨dst, .call ⟨.builtin .max, #[x, y], ts⟩, ty, ps, af, g⟩ :: rest) ⟨gs, hom, nx⟩ R :=
 cm hw (OB (by simp [Fd, hx, hy])) (fun _ => ⟨rfl, rfl⟩) h
theorem Ou {kd : IntKind} {a b : Int} {ts : Array TypeId} (hw : am ops gs ⟨dst, .call ⟨.builtin .min, #[x, y], ts⟩, ty, ps, af, g⟩ = some true) (hx : ev C ⟨gs, hom, nx⟩ x = .d (.int kd a)) (hy : ev C ⟨gs, hom, nx⟩ y = .d (.int kd b))
  (h : EW q C ops rest ⟨aK gs dst (.d (.int kd (if b < a then b else a))), hom, nx⟩ R) : EW q C ops (⟨dst, .call ⟨.builtin .min, #[x, y], ts⟩, ty, ps, af, g⟩ :: rest) ⟨gs, hom, nx⟩ R :=
 cm hw (OC (by simp [Fe, hx, hy])) (fun _ => ⟨rfl, rfl⟩) h
theorem cr {l : List (Nat × Nat)} {zs : List AV} {parts : Array (Nat × Operand)} {cs : List AV} (hw : am ops gs ⟨dst, .build t parts, ty, ps, af, g⟩ = some true) (hz : (C.ty t).map (·.zero) = some zs) (hp : dc C t = some l)
  (hf : er dD (fun i => l[i]?) zs (parts.toList.map fun p => (p.1, ev C ⟨gs, hom, nx⟩ p.2)) = some cs)
  (h : EW q C ops rest ⟨aK gs dst (.agg cs), hom, nx⟩ R) : EW q C ops (⟨dst, .build t parts, ty, ps, af, g⟩ :: rest) ⟨gs, hom, nx⟩ R := by
 obtain ⟨yt, h1, rfl⟩ := Option.map_eq_some_iff.1 hz
 exact cm hw (D2 (by rw [wk hp h1, hf]; rfl)) (fun _ => ⟨rfl, rfl⟩) h
theorem ny {n el m : Nat} {a : Bool} {zs : List AV} {parts : Array (Nat × Operand)} {cs : List AV} (hz : (C.ty t).map (·.zero) = some zs) (ha : iq C t = some (n, el)) (he : szg C el = some (m, a))
  (hf : er dD (fun i => some (i * m, m)) zs (parts.toList.map fun p => (p.1, ev C ⟨gs, hom, nx⟩ p.2)) = some cs) : opV C (ev C ⟨gs, hom, nx⟩) (.build t parts) hom nx = some (.agg cs, hom, nx) := by
 obtain ⟨yt, h1, rfl⟩ := Option.map_eq_some_iff.1 hz
 refine D2 (v := .agg cs) ?_
 have hd : yt.desc = .array n el := by
  unfold iq at ha
  simp only [h1] at ha
  split at ha
  ·rename_i n' e' hd; cases ha; exact hd
  ·cases ha
 simp only [rX, h1, hd, (bp he).1]
 rw [show (fun (x : Nat × Operand) => match x with | (i, x) => (i, ev C ⟨gs, hom, nx⟩ x)) = fun p => (p.1, ev C ⟨gs, hom, nx⟩ p.2) from rfl, hf]
 rfl
theorem iu {n el m : Nat} {a : Bool} {zs : List AV} {parts : Array (Nat × Operand)} {cs : List AV} (hw : am ops gs ⟨dst, .build t parts, ty, ps, af, g⟩ = some true) (hz : (C.ty t).map (·.zero) = some zs) (ha : iq C t = some (n, el)) (he : szg C el = some (m, a))
  (hf : er dD (fun i => some (i * m, m)) zs (parts.toList.map fun p => (p.1, ev C ⟨gs, hom, nx⟩ p.2)) = some cs)
  (h : EW q C ops rest ⟨aK gs dst (.agg cs), hom, nx⟩ R) : EW q C ops (⟨dst, .build t parts, ty, ps, af, g⟩ :: rest) ⟨gs, hom, nx⟩ R :=
 cm hw (ny hz ha he hf) (fun _ => ⟨rfl, rfl⟩) h
theorem yd {sz : Nat} {H : Hs} : ∀ (vs : List AV) (xs pre : List Dat) (k : Nat) (post : List Dat), pre.length = k → post.length = vs.length → vs.length = xs.length →
  (∀ (i : Nat) v x, vs[i]? = some v → xs[i]? = some x → frz 4 H v = some (x, H) ∧ x.cells.length = sz ∧ (x.cells.map AV.d).all okC = true) →
  dy sz H (pre ++ post) ((List.range' k vs.length).zip vs) = some (pre ++ xs, H) := by
 intro vs
 induction vs with
 | nil => intro xs pre k post h1 h2 h3 _; cases xs <;> simp at h3; cases post <;> simp at h2; simp [dy]
 | cons v vs ih =>
  intro xs pre k post h1 h2 h3 h4
  cases xs with
  | nil => simp at h3
  | cons x xs =>
   cases post with
   | nil => simp at h2
   | cons p post =>
    obtain ⟨h5, h6, h7⟩ := h4 0 v x rfl rfl
    have := ih xs (pre ++ [x]) (k + 1) post (by simp [h1]) (by simpa using h2) (by simpa using h3) (fun i v' x' hv hx => h4 (i + 1) v' x' (by simpa using hv) (by simpa using hx))
    rw [List.length_cons, List.range'_succ, List.zip_cons_cons]
    simp only [dy, h5]
    rw [if_pos ⟨by simp [← h1], h6, h7⟩]
    rw [show (pre ++ p :: post).set k x = pre ++ [x] ++ post by rw [← h1]; simp]
    simpa using this
theorem cN {α : Type} {enc : α → Dat} {xs : List α} (vs : List AV) {el m : Nat} {a : Bool} {zs : List AV} {parts : Array (Nat × Operand)} {L : List Item} (hw : am ops gs ⟨dst, .buildSlice t xs.length parts, ty, ps, af, g⟩ = some true)
  (he : cd C t = some el) (hz : szg C el = some (m, a)) (hy : (C.ty el).map (·.zero) = some zs) (h0 : 0 < m ∧ xs.length * m ≤ 16777216) (hZ : ∃ z, cw C el = some z ∧ z.cells.length = m ∧ (z.cells.map AV.d).all okC = true) (hc : ∀ v, (enc v).cells.length = m) (hk : ∀ v, ((enc v).cells.map AV.d).all okC = true)
  (h1 : (parts.toList.map fun p => (p.1, ev C ⟨gs, hom, nx⟩ p.2)) = (List.range' 0 vs.length).zip vs) (h2 : List.map (fun v => frz 4 hom v) vs = xs.map fun v => some (enc v, hom))
  (hH : HP hom nx L) (h : ∀ w H' n', HP H' n' (.own w ⟨el, m⟩ (xs.map enc) :: L) → EW false C ops rest ⟨aK gs dst w, H', n'⟩ R) : EW false C ops (⟨dst, .buildSlice t xs.length parts, ty, ps, af, g⟩ :: rest) ⟨gs, hom, nx⟩ R := by
 obtain ⟨zd, h3, h4, h5⟩ := hZ
 obtain ⟨yt, h6, rfl⟩ := Option.map_eq_some_iff.1 hy
 have h7 : yt.size = m := by have := (bp hz).1; simpa [bP, h6] using this
 have hl : vs.length = xs.length := by simpa using congrArg List.length h2
 have hpd : dy m hom (List.replicate xs.length zd) ((List.range' 0 vs.length).zip vs) = some (xs.map enc, hom) := by
  have := yd (sz := m) (H := hom) vs (xs.map enc) [] 0 (List.replicate xs.length zd) rfl (by simp [hl]) (by simp [hl]) (fun i v x hv hx => by
   have e1 : (List.map (fun v => frz 4 hom v) vs)[i]? = (xs.map fun v => some (enc v, hom))[i]? := by rw [h2]
   rw [List.getElem?_map, hv, List.getElem?_map] at e1
   rw [List.getElem?_map] at hx
   obtain ⟨e, he', rfl⟩ := Option.map_eq_some_iff.1 hx
   rw [he'] at e1
   exact ⟨Option.some.inj e1, hc e, hk e⟩)
  simpa using this
 have hp' : HP (upd hom nx (.own ⟨el, m⟩ (xs.map enc))) (nx + 1) (.own (.sl nx 0 xs.length) ⟨el, m⟩ (xs.map enc) :: L) :=
  hH.new (by simp [Item.ids, aH]) (.inr ⟨nx, [], by simp, by simp [upd]⟩)
 refine cm hw (v := .sl nx 0 xs.length) (H1 := upd hom nx (.own ⟨el, m⟩ (xs.map enc))) (n1 := nx + 1) ?_ (by simp) (h _ _ _ hp')
 rw [bW (fun _ _ _ h => by cases h)]
 simp only [act, he, h3, h6, h7]
 rw [if_pos ⟨h4, h5, h0.1, h0.2⟩]
 rw [show (parts.toList.map fun (x : Nat × Operand) => match x with | (i, x) => (i, ev C ⟨gs, hom, nx⟩ x)) = parts.toList.map fun p => (p.1, ev C ⟨gs, hom, nx⟩ p.2) from rfl, h1, hpd]
theorem HP.okOwn {H : Hs} {n : Nat} {L : List Item} (hH : HP H n L) {j : Nat} {w : AV} {z : Row} {xs : List Dat} (hj : L[j]? = some (.own w z xs)) : okC w = true ∧ w.cells = [w] := by
 rcases hH.get hj with ⟨rfl, _⟩ | ⟨id, ys, rfl, _⟩ <;> exact ⟨rfl, rfl⟩
theorem Ov {t u : TypeId} {x y : Operand} {e : Operand → AV} {H : Hs} {n : Nat} {as bs : List Dat} {qs : List Nat} {b : Bool} (hs : pJ C t = true) (hq : C.eqs t = some qs) (hx : dN (e x) = some (.agg as)) (hy : dN (e y) = some (.agg bs)) (hr : cM qs as bs = some b) :
  opV C e (.binOp .eql t x y u) H n = some (.d (.bool b), H, n) ∧ opV C e (.binOp .neq t x y u) H n = some (.d (.bool (!b)), H, n) := by
 have hE : CQ C t (.agg as) (.agg bs) = some b := by
  unfold pJ at hs
  unfold CQ
  cases hc : C.ty t with
  | none => rw [hc] at hs; cases hs
  | some yt =>
   rw [hc] at hs
   simp only at hs ⊢
   rw [if_pos hs, hq]
   exact hr
 exact ⟨C8 (by simp [qA, hx, hy, uc, hE]), C8 (by simp [qA, hx, hy, uc, hE])⟩
theorem kW {t u : TypeId} {x y : Operand} {e : Operand → AV} {H : Hs} {n : Nat} {as bs : List Dat} {qs : List Nat} {b : Bool} (hs : pJ C t = true) (hq : C.eqs t = some qs) (hx : dN (e x) = some (.agg as)) (hy : dN (e y) = some (.agg bs)) (hr : cM qs as bs = some b) :
  opV C e (.binOp .neq t x y u) H n = some (.d (.bool (!b)), H, n) := (Ov hs hq hx hy hr).2
theorem vR {m : Nat} {a : Bool} {cs : List Dat} {d : Dat} {e : Operand → AV} {H : Hs} {n : Nat} (hz : szg C t = some (m, a)) (hx : e x = .d (.ptr cs)) (hr : (jO cs 0 m).bind (mkD a) = some d) : opV C e (.load t x) H n = some (.d d, H, n) := by
 obtain ⟨h1, h2⟩ := bp hz
 exact uV (by simp [iQ, h1, h2, hx, hr])
theorem dR {l : List Item} {i id off m : Nat} {a : Bool} {cs : List AV} {e : Operand → AV} {H : Hs} {n : Nat} (hz : szg C t = some (m, a)) (hH : HP H n l) (hi : l[i]? = some (.box id cs)) (hx : e x = .pt id off) (hr : (gq cs off m).bind (mkA a) = some v) :
  opV C e (.load t x) H n = some (v, H, n) := by
 obtain ⟨h1, h2⟩ := bp hz
 have h3 : H id = .box cs := hH.get hi
 exact uV (by simp [iQ, h1, h2, hx, h3, hr])
theorem M2 {α β : Type} {f : α → List β} : ∀ {l : List α}, (l.flatMap f).Nodup → ∀ {i j : Nat} {a b : α}, l[i]? = some a → l[j]? = some b → i ≠ j → ∀ x ∈ f a, x ∉ f b := by
 intro l
 induction l with
 | nil => intro _ i j a b h; simp at h
 | cons c l ih =>
  intro hn i j a b hi hj hne x hxa hxb
  rw [List.flatMap_cons, List.nodup_append] at hn
  cases i with
  | zero =>
   cases j with
   | zero => exact hne rfl
   | succ j =>
    simp only [List.getElem?_cons_zero, Option.some.injEq] at hi
    subst hi
    simp only [List.getElem?_cons_succ] at hj
    exact hn.2.2 x hxa x (List.mem_flatMap.2 ⟨b, List.mem_of_getElem? hj, hxb⟩) rfl
  | succ i =>
   simp only [List.getElem?_cons_succ] at hi
   cases j with
   | zero =>
    simp only [List.getElem?_cons_zero, Option.some.injEq] at hj
    subst hj
    exact hn.2.2 x hxb x (List.mem_flatMap.2 ⟨a, List.mem_of_getElem? hi, hxa⟩) rfl
   | succ j =>
    simp only [List.getElem?_cons_succ] at hj
    exact ih hn.2.1 hi hj (by omega) x hxa hxb
theorem M3 {α β : Type} {f : α → List β} : ∀ {l : List α}, (l.flatMap f).Nodup → ∀ a ∈ l, (f a).Nodup := by
 intro l
 induction l with
 | nil => intro _ a h; simp at h
 | cons c l ih =>
  intro hn a ha
  rw [List.flatMap_cons, List.nodup_append] at hn
  rcases List.mem_cons.1 ha with rfl | ha
  ·exact hn.1
  ·exact ih hn.2.1 a ha
theorem HP.sel {H : Hs} {n : Nat} {L : List Item} (hH : HP H n L) (is : List Nat) (hn : is.Nodup) : HP H n (is.filterMap fun i => L[i]?) := by
 refine ⟨?_, fun it hi => ?_, fun it hi => ?_⟩
 ·induction is with
  | nil => simp
  | cons i is ih =>
   obtain ⟨h1, h2⟩ := List.nodup_cons.1 hn
   cases hL : L[i]? with
   | none => simp only [List.filterMap_cons, hL]; exact ih h2
   | some a =>
    simp only [List.filterMap_cons, hL]
    rw [List.flatMap_cons, List.nodup_append]
    refine ⟨M3 hH.nd a (List.mem_of_getElem? hL), ih h2, ?_⟩
    intro x hx y hy e
    subst e
    obtain ⟨b, hb, hxb⟩ := List.mem_flatMap.1 hy
    obtain ⟨j, hj, hb⟩ := List.mem_filterMap.1 hb
    exact M2 hH.nd hL hb (fun e => h1 (e ▸ hj)) x hx hxb
 ·obtain ⟨j, _, hb⟩ := List.mem_filterMap.1 hi
  exact hH.ok it (List.mem_of_getElem? hb)
 ·obtain ⟨j, _, hb⟩ := List.mem_filterMap.1 hi
  exact hH.lt it (List.mem_of_getElem? hb)
end
end Go.Jv
namespace Go.Jv
def FS (k : Nat) (H : Hs) (n : Nat) (vs : List AV) (xs : List Dat) (L' : List Item) : Prop := ∃ H', cg (frz (k + 1)) H vs = some (xs, H') ∧ HP H' n L'
section
variable {k n : Nat} {H : Hs} {L L' : List Item} {vs : List AV} {xs : List Dat}
theorem FS.nil (hH : HP H n L) : FS k H n [] [] L := ⟨H, rfl, hH⟩
theorem qc {f : Hs → AV → Option (Dat × Hs)} {H H1 H' : Hs} {v : AV} {x : Dat} {vs : List AV} {xs : List Dat} (h : f H v = some (x, H1)) (h1 : cg f H1 vs = some (xs, H')) : cg f H (v :: vs) = some (x :: xs, H') := by
 rw [cg, h]; simp only [h1]
theorem FS.d {x : Dat} (h : FS k H n vs xs L') : FS k H n (.d x :: vs) (x :: xs) L' := by
 obtain ⟨H', h1, h2⟩ := h
 exact ⟨H', qc rfl h1, h2⟩
theorem FS.nl (h : FS k H n vs xs L') : FS k H n (.nil :: vs) (.lst [] :: xs) L' := by
 obtain ⟨H', h1, h2⟩ := h
 exact ⟨H', qc rfl h1, h2⟩
theorem FS.own {j : Nat} {w : AV} {z : Row} {ys : List Dat} (hH : HP H n L) (hj : L[j]? = some (.own w z ys)) (h : ∀ H1, HP H1 n (L.set j (.imm w z ys)) → FS k H1 n vs xs L') : FS k H n (w :: vs) (.lst ys :: xs) L' := by
 have hp := hH.pick j hj
 rcases hH.get hj with ⟨rfl, rfl⟩ | ⟨id, zs, rfl, h4⟩
 ·refine FS.nl (h H (HP.perm ?_ (nb _ _ _ _ hj)))
  refine ⟨by have := hp.nd; rw [List.flatMap_cons] at this ⊢; simpa [Item.live, aH] using this, fun it hi => ?_, fun it hi i hm => ?_⟩
  ·rcases List.mem_cons.1 hi with rfl | hi
   ·exact .inl ⟨rfl, rfl⟩
   ·exact hp.ok it (List.mem_cons_of_mem _ hi)
  ·rcases List.mem_cons.1 hi with rfl | hi
   ·simp [Item.ids, aH] at hm
   ·exact hp.lt it (List.mem_cons_of_mem _ hi) i hm
 ·obtain ⟨H', h1, h2⟩ := h (upd H id (.imm z (ys ++ zs))) (HP.perm (hp.write (b := .imm (.sl id 0 ys.length) z ys) (X := .imm z (ys ++ zs)) (by simp [Item.live, aH]) rfl (.inr ⟨id, 0, ys ++ zs, by simp, by simp [upd], by simp, by simp [win]⟩)) (nb _ _ _ _ hj))
  refine ⟨H', qc ?_ h1, h2⟩
  simp only [frz, h4]
  rw [if_pos ⟨by omega, by simp⟩]
  simp [win]
theorem FS.imm {j : Nat} {w : AV} {z : Row} {ys : List Dat} (hH : HP H n L) (hj : L[j]? = some (.imm w z ys)) (h : FS k H n vs xs L') : FS k H n (w :: vs) (.lst ys :: xs) L' := by
 rcases hH.get hj with ⟨rfl, rfl⟩ | ⟨id, lo, zs, rfl, h4, h5, h6⟩
 ·exact FS.nl h
 ·obtain ⟨H', h1, h2⟩ := h
  refine ⟨H', qc ?_ h1, h2⟩
  simp only [frz, h4]
  rw [if_pos ⟨by omega, h5⟩, h6]
theorem FS.agg {cs : List AV} {ds : List Dat} {L1 : List Item} (h1 : FS k H n cs ds L1) (h : ∀ H1, HP H1 n L1 → FS (k + 1) H1 n vs xs L') : FS (k + 1) H n (.agg cs :: vs) (.agg ds :: xs) L' := by
 obtain ⟨H1, h2, h3⟩ := h1
 obtain ⟨H', h4, h5⟩ := h H1 h3
 refine ⟨H', qc ?_ h4, h5⟩
 rw [show frz (k + 1 + 1) H (.agg cs) = (cg (frz (k + 1)) H cs).map fun r => (.agg r.1, r.2) from rfl, h2]
 rfl
end
section
variable {C : Cfg} {gs : Nat → AV} {hom : Hs} {nx : Nat} {q : Bool} {ops : Array Oper} {rest : List Oper} {R : St → Prop} {Q : Ex → St → Prop}
variable {dst : Option Tmp} {ty : TypeId} {ps : String} {af : Array Edge} {g : Option (Nat × Bool)} {t u : TypeId} {x y z : Operand} {v : AV} {ρ : Type} {r : ρ}
def RA (C : Cfg) (s : St) (rs : List ResultVar) (vs : List AV) : Prop := cF C s rs = some vs
theorem aJ {s : St} : RA C s [] [] := rfl
theorem aS {s : St} {t : Tmp} {rs : List ResultVar} {vs : List AV} (v : AV) (hv : s.regs t = v) (h : RA C s rs vs) : RA C s (.tmp t :: rs) (v :: vs) := by
 simp only [RA] at h; simp [RA, cF, h, hv]
theorem iI {s : St} {a : Tmp} {t : TypeId} {rs : List ResultVar} {vs : List AV} (v : AV) {l : List Item} {i id off m : Nat} {ag : Bool} {cs : List AV} (hz : szg C t = some (m, ag)) (hH : HP s.homes s.next l) (hi : l[i]? = some (.box id cs)) (hx : s.regs a = .pt id off)
  (hr : (gq cs off m).bind (mkA ag) = some v) (h : RA C s rs vs) : RA C s (.cell a t :: rs) (v :: vs) := by
 obtain ⟨h1, h2⟩ := bp hz
 have h3 : s.homes id = .box cs := hH.get hi
 have : iQ C s.homes t (s.regs a) = some v := by simp [iQ, h1, h2, hx, h3, hr]
 simp only [RA] at h
 simp [RA, cF, h, this]
theorem pdF {s : St} {F : Func} {rs : List Dat} {ex : Ex} {vs : List AV} {L' : List Item} (he : ex = .ret ∨ ex = .normal) (h1 : RA C s F.results.toList vs) (h2 : FS 3 s.homes s.next vs rs L') : aq C F rs ex s := by
 obtain ⟨H', h3, _⟩ := h2
 exact pd he h1 h3
theorem Mg {β : Type} {m : Option β} {k : β → Option ρ} {f : FuncId} {args : Array Operand} {ts : Array TypeId} {xs : List Dat} {E : β → List Dat} {L' : List Item} (hm : (m >>= k) = some r)
  (hw : am ops gs ⟨dst, .call ⟨.value (.func f), args, ts⟩, ty, ps, af, g⟩ = some true) (hs : C.sig f = .dat) (hf : FS 3 hom nx (args.toList.map (ev C ⟨gs, hom, nx⟩)) xs L')
  (hc : ∀ y, m = some y → aL C f xs = some (E y))
  (h : ∀ y H', k y = some r → HP H' nx L' → EW false C ops rest ⟨aK gs dst (dv ((E y).map .d)), H', nx⟩ R) : EW false C ops (⟨dst, .call ⟨.value (.func f), args, ts⟩, ty, ps, af, g⟩ :: rest) ⟨gs, hom, nx⟩ R := by
 obtain ⟨y, h1, h2⟩ := Option.bind_eq_some_iff.1 hm
 obtain ⟨H', h3, h4⟩ := hf
 exact cm hw (HS rfl hs h3 (hc y h1)) (by simp) (h y H' h2 h4)
theorem rn {sz : Nat} {H H1 : Hs} {v : AV} {x d : Dat} (h : frz 4 H v = some (x, H1)) (hs : x.cells.length = sz) (hk : (x.cells.map AV.d).all okC = true) : dy sz H [d] [(0, v)] = some ([x], H1) := by
 simp only [dy, h]
 rw [if_pos ⟨by simp, hs, hk⟩]
 rfl
theorem de {α : Type} {enc : α → Dat} {e : α} (v : AV) {el m : Nat} {a : Bool} {zs : List AV} {o : Operand} {L : List Item} (hw : am ops gs ⟨dst, .buildSlice t 1 #[(0, o)], ty, ps, af, g⟩ = some true)
  (he : cd C t = some el) (hz : szg C el = some (m, a)) (hy : (C.ty el).map (·.zero) = some zs) (h0 : 0 < m ∧ 1 * m ≤ 16777216) (hZ : ∃ z, cw C el = some z ∧ z.cells.length = m ∧ (z.cells.map AV.d).all okC = true) (hc : ∀ v, (enc v).cells.length = m) (hk : ∀ v, ((enc v).cells.map AV.d).all okC = true)
  (h1 : ev C ⟨gs, hom, nx⟩ o = v) (h2 : FS 3 hom nx [v] [enc e] L)
  (h : ∀ w H' n', HP H' n' (.own w ⟨el, m⟩ ([e].map enc) :: L) → EW false C ops rest ⟨aK gs dst w, H', n'⟩ R) : EW false C ops (⟨dst, .buildSlice t 1 #[(0, o)], ty, ps, af, g⟩ :: rest) ⟨gs, hom, nx⟩ R := by
 obtain ⟨zd, h3, h4, h5⟩ := hZ
 obtain ⟨yt, h6, rfl⟩ := Option.map_eq_some_iff.1 hy
 have h7 : yt.size = m := by have := (bp hz).1; simpa [bP, h6] using this
 obtain ⟨H1, h8, hH⟩ := h2
 have h9 : frz 4 hom v = some (enc e, H1) := by
  rw [cg] at h8
  revert h8
  cases hv : frz (3 + 1) hom v with
  | none => intro h8; cases h8
  | some p => intro h8; simp only [cg, Option.some.injEq, Prod.mk.injEq, List.cons.injEq, and_true] at h8; rw [← h8.1, ← h8.2]
 have hp' : HP (upd H1 nx (.own ⟨el, m⟩ ([e].map enc))) (nx + 1) (.own (.sl nx 0 1) ⟨el, m⟩ ([e].map enc) :: L) :=
  hH.new (by simp [Item.ids, aH]) (.inr ⟨nx, [], by simp, by simp [upd]⟩)
 refine cm hw (v := .sl nx 0 1) (H1 := upd H1 nx (.own ⟨el, m⟩ ([e].map enc))) (n1 := nx + 1) ?_ (by simp) (h _ _ _ hp')
 rw [bW (fun _ _ _ h => by cases h)]
 simp only [act, he, h3, h6, h7]
 rw [if_pos ⟨h4, h5, h0.1, h0.2⟩]
 simp only [List.map_cons, List.map_nil, h1]
 rw [show List.replicate 1 zd = [zd] from rfl, rn h9 (hc e) (hk e)]
def Raw (C : Cfg) (f : FuncId) (vs : List AV) (H : Hs) (n : Nat) (Q : List AV → Hs → Nat → Prop) : Prop := ∃ rs H1 n1, nW C f vs H n = some (rs, H1, n1) ∧ Q rs H1 n1
theorem Mh {e : Operand → AV} {H : Hs} {n : Nat} {fv : Operand} {f : FuncId} {caps : List AV} {args : Array Operand} {ts : Array TypeId} {vs : List AV} {H1 : Hs} {n1 : Nat} (he : gP (e fv) = some (f, caps)) (hs : C.sig f = .raw) (hc : nW C f (args.toList.map e ++ caps) H n = some (vs, H1, n1)) :
  opV C e (.call ⟨.value fv, args, ts⟩) H n = some (dv vs, H1, n1) := by
 rw [opV]; simp [he, hs, hc]
theorem fw {β : Type} {m : Option β} {k : β → Option ρ} {fv : Operand} {f : FuncId} {caps : List AV} {args : Array Operand} {ts : Array TypeId} (vs : List AV) {P : β → List AV → Hs → Nat → Prop} (hm : (m >>= k) = some r)
  (hw : am ops gs ⟨dst, .call ⟨.value fv, args, ts⟩, ty, ps, af, g⟩ = some true) (hfn : gP (ev C ⟨gs, hom, nx⟩ fv) = some (f, caps)) (hs : C.sig f = .raw) (ha : args.toList.map (ev C ⟨gs, hom, nx⟩) ++ caps = vs)
  (hc : ∀ y, m = some y → Raw C f vs hom nx (P y))
  (h : ∀ y rs H' n', k y = some r → P y rs H' n' → EW false C ops rest ⟨aK gs dst (dv rs), H', n'⟩ R) : EW false C ops (⟨dst, .call ⟨.value fv, args, ts⟩, ty, ps, af, g⟩ :: rest) ⟨gs, hom, nx⟩ R := by
 obtain ⟨y, h1, h2⟩ := Option.bind_eq_some_iff.1 hm
 obtain ⟨rs, H1, n1, h3, h4⟩ := hc y h1
 exact cm hw (Mh (n1 := n1) hfn hs (ha ▸ h3)) (by simp) (h y rs H1 n1 h2 h4)
def cb (C : Cfg) (F : Func) (Q : List AV → Hs → Nat → Prop) : Ex → St → Prop := fun ex s => (∀ i, ex ≠ .exit i) ∧ ∃ rs, cF C s F.results.toList = some rs ∧ Q rs s.homes s.next
theorem fa {f : FuncId} {vs : List AV} {F : Func} {H : Hs} {n : Nat} {Q : List AV → Hs → Nat → Prop} (hf : C.fn f = some F) (hb : F.body.isSome = true)
  (h : PAt C (aj F) .o ⟨ini vs, H, n⟩ (cb C F Q)) : Raw C f vs H n Q := Jy hf hb h
theorem prF {s : St} {F : Func} {ex : Ex} {vs : List AV} {Q : List AV → Hs → Nat → Prop} (he : ex = .ret ∨ ex = .normal) (h1 : RA C s F.results.toList vs) (h2 : Q vs s.homes s.next) : cb C F Q ex s :=
 ⟨fun i hi => (by rcases he with e | e <;> rw [e] at hi <;> cases hi), vs, h1, h2⟩
theorem HP.selT {H : Hs} {n : Nat} {L : List Item} (hH : HP H n L) (k : Nat) (is : List Nat) (hn : is.Nodup) (hk : ∀ i ∈ is, i < k) : HP H n ((is.filterMap fun i => L[i]?) ++ L.drop k) := by
 have h := hH.sel (is ++ (List.range' k (L.length - k))) (by
  rw [List.nodup_append]
  refine ⟨hn, List.nodup_range', ?_⟩
  intro a ha b hb e
  subst e
  have h1 := hk a ha
  have h2 := List.mem_range'.1 hb
  obtain ⟨i, _, h3⟩ := h2
  omega)
 rw [List.filterMap_append] at h
 have e : (List.range' k (L.length - k)).filterMap (fun i => L[i]?) = L.drop k := by
  apply List.ext_getElem?
  intro i
  have : ∀ (k : Nat) (m : Nat), k + m ≤ L.length → (List.range' k m).filterMap (fun i => L[i]?) = (L.drop k).take m := by
   intro k m
   induction m generalizing k with
   | zero => intro _; simp
   | succ m ih =>
    intro hkm
    rw [List.range'_succ, List.filterMap_cons, List.getElem?_eq_getElem (by omega)]
    simp only
    rw [ih (k + 1) (by omega), List.drop_eq_getElem_cons (i := k) (by omega), List.take_succ_cons]
  by_cases hkl : k ≤ L.length
  ·rw [this k (L.length - k) (by omega)]
   rw [List.take_of_length_le (by simp)]
  ·rw [show L.length - k = 0 by omega, List.drop_eq_nil_of_le (by omega)]
   simp
 rwa [e] at h
inductive uk (L : List Item) (k : Nat) : List Nat → List Item → Prop where
 | tail {l : List Item} (h : L.drop k = l) : uk L k [] l
 | cons {i : Nat} {is : List Nat} {it : Item} {l : List Item} (h : L[i]? = some it) (t : uk L k is l) : uk L k (i :: is) (it :: l)
theorem gt {L : List Item} {k : Nat} {l : List Item} (h : L.drop k = l) : uk L k [] l := .tail h
theorem gc {L : List Item} {k i : Nat} {is : List Nat} {it : Item} {l : List Item} (h : L[i]? = some it) (t : uk L k is l) : uk L k (i :: is) (it :: l) := .cons h t
theorem uk.eq {L : List Item} {k : Nat} {is : List Nat} {l : List Item} (h : uk L k is l) : (is.filterMap fun i => L[i]?) ++ L.drop k = l := by
 induction h with
 | tail h => exact h
 | cons h t ih => rw [List.filterMap_cons, h]; simp [ih]
theorem HP.selG {H : Hs} {n : Nat} {L L' : List Item} (hH : HP H n L) (k : Nat) (is : List Nat) (hn : is.Nodup) (hk : ∀ i ∈ is, i < k) (hg : uk L k is L') : HP H n L' := hg.eq ▸ hH.selT k is hn hk
def mE (w : AV) (lo hi : Nat) : AV := match w with | .sl id _ _ => .sl id lo hi | _ => .nil
theorem Mi {α : Type} {enc : α → Dat} {l : List α} {M : Int} {k : List α → Option ρ} {lo : Operand} {el : TypeId} {m : Nat} {a : Bool} {L : List Item} {j : Nat} {w : AV} (hm : ((cut l M l.length) >>= k) = some r) (hw : am ops gs ⟨dst, .slice t x (some lo) none none, ty, ps, af, g⟩ = some true)
  (he : cd C t = some el) (hz : szg C el = some (m, a)) (hH : HP hom nx L) (hj : L[j]? = some (.own w ⟨el, m⟩ (l.map enc))) (hx : ev C ⟨gs, hom, nx⟩ x = w) (hlo : ev C ⟨gs, hom, nx⟩ lo = .d (.int .i64 M))
  (h : k (l.drop M.toNat) = some r → EW q C ops rest ⟨aK gs dst (mE w M.toNat l.length), hom, nx⟩ R) : EW q C ops (⟨dst, .slice t x (some lo) none none, ty, ps, af, g⟩ :: rest) ⟨gs, hom, nx⟩ R := by
 obtain ⟨v, h1, h2⟩ := Option.bind_eq_some_iff.1 hm
 unfold cut at h1
 obtain ⟨ye, h3, h4⟩ := jl he
 split at h1
 ·rename_i h0
  cases h1
  have e : List.take ((l.length : Int).toNat - M.toNat) (List.drop M.toNat l) = l.drop M.toNat := List.take_of_length_le (by simp)
  rw [e] at h2
  have hlh := Eu (n := l.length) (L := M) h0.1 h0.2.1 h0.2.2
  rcases hH.get hj with ⟨h5, h6⟩ | ⟨id, ys, h5, h6⟩
  ·simp only [List.map_eq_nil_iff] at h6
   subst h6
   refine cm hw (v := mE w M.toNat 0) (H1 := hom) (n1 := nx) (lu ?_) (fun _ => ⟨rfl, rfl⟩) (h h2)
   simp only [List.length_nil] at hlh
   simp only [gr, h3, h4, hx, h5, Bool.false_eq_true, if_false, (bp hz).1, Option.isSome_some, if_true, Option.map_none, Option.map_some, hlo, hlh, mE]
  ·rw [List.length_map] at h5
   refine cm hw (v := mE w M.toNat l.length) (H1 := hom) (n1 := nx) (lu ?_) (fun _ => ⟨rfl, rfl⟩) (h h2)
   have hsz : nR (hom id) (some m) = true := by simp [nR, h6, ud]
   simp only [gr, h3, h4, hx, h5, Bool.false_eq_true, if_false, (bp hz).1, hsz, if_true, Option.map_none, Option.map_some, hlo, Nat.sub_zero, hlh, mE]
   simp
 ·cases h1
theorem HZ {α : Type} {enc : α → Dat} {l : List α} {el : TypeId} {L : List Item} {j : Nat} {w : AV} {z : Row} {M : Int} (hw : am ops gs ⟨dst, .call ⟨.builtin .len, #[x], #[t]⟩, ty, ps, af, g⟩ = some true) (he : cd C t = some el)
  (hH : HP hom nx L) (hj : L[j]? = some (.own w z (l.map enc))) (hx : ev C ⟨gs, hom, nx⟩ x = mE w M.toNat l.length)
  (h : EW q C ops rest ⟨aK gs dst (.d (.int .i64 ((l.drop M.toNat).length : Int))), hom, nx⟩ R) : EW q C ops (⟨dst, .call ⟨.builtin .len, #[x], #[t]⟩, ty, ps, af, g⟩ :: rest) ⟨gs, hom, nx⟩ R := by
 obtain ⟨y, h1, h2⟩ := jl he
 refine yW hw ?_ h
 rcases hH.get hj with ⟨h3, h4⟩ | ⟨id, ys, h3, h4⟩
 ·simp only [List.map_eq_nil_iff] at h4
  subst h4
  simp [nc, h1, h2, hx, h3, mE]
 ·simp [nc, h1, h2, hx, h3, mE]
theorem I0 {α : Type} {enc : α → Dat} {l : List α} {i M : Int} {kd : IntKind} {k : α → Option ρ} {el : TypeId} {m : Nat} {a : Bool} {L : List Item} {j : Nat} {w : AV} (hm : ((idx (l.drop M.toNat) i) >>= k) = some r) (hw : am ops gs ⟨dst, .indexAddr t x y, ty, ps, af, g⟩ = some true)
  (he : cd C t = some el) (hz : szg C el = some (m, a)) (hH : HP hom nx L) (hj : L[j]? = some (.own w ⟨el, m⟩ (l.map enc))) (hx : ev C ⟨gs, hom, nx⟩ x = mE w M.toNat l.length) (hy : ev C ⟨gs, hom, nx⟩ y = .d (.int kd i))
  (h : ∀ id v, k v = some r → w = .sl id 0 l.length → l[M.toNat + i.toNat]? = some v → EW q C ops rest ⟨aK gs dst (.pe id (M.toNat + i.toNat) 0), hom, nx⟩ R) : EW q C ops (⟨dst, .indexAddr t x y, ty, ps, af, g⟩ :: rest) ⟨gs, hom, nx⟩ R := by
 obtain ⟨v, h1, h2⟩ := Option.bind_eq_some_iff.1 hm
 obtain ⟨h0, h1⟩ := lm h1
 rw [List.getElem?_drop] at h1
 rcases hH.get hj with ⟨_, h3⟩ | ⟨id, ys, h3, h4⟩
 ·simp only [List.map_eq_nil_iff] at h3
  subst h3
  simp at h1
 ·rw [List.length_map] at h3
  refine cm hw (v := .pe id (M.toNat + i.toNat) 0) (H1 := hom) (n1 := nx) (ph ?_) (fun _ => ⟨rfl, rfl⟩) (h id v h2 h3 h1)
  have hl : M.toNat + i.toNat < l.length := (List.getElem?_eq_some_iff.1 h1).1
  simp only [dJ, hx, hy, iR, he, h3, mE]
  rw [if_neg (by omega)]
  simp only [nR, h4, ud, (bp hz).1]
  rw [if_pos ⟨by omega, by simp⟩]
theorem I1 {α : Type} {f : α → Dat} {w : A2 α} {a : Bool} {el : TypeId} {i : Int} {kd : IntKind} {k : α → Option ρ} {off id : Nat} {cs : List AV} (hm : ((w.get i) >>= k) = some r) (hw : am ops gs ⟨dst, .indexAddr t x y, ty, ps, af, g⟩ = some true) (ha : iq C t = some (2, el)) (he : cd C t = none) (hz : szg C el = some (1, a))
  (hx : ev C ⟨gs, hom, nx⟩ x = .pt id off) (hy : ev C ⟨gs, hom, nx⟩ y = .d (.int kd i)) (hc : gq cs off 2 = some [.d (f w.e0), .d (f w.e1)])
  (h : ∀ v o', k v = some r → gq cs o' 1 = some [.d (f v)] → EW q C ops rest ⟨aK gs dst (.pt id o'), hom, nx⟩ R) : EW q C ops (⟨dst, .indexAddr t x y, ty, ps, af, g⟩ :: rest) ⟨gs, hom, nx⟩ R := by
 obtain ⟨v, h1, h2⟩ := Option.bind_eq_some_iff.1 hm
 have key : ∀ j : Nat, j < 2 → i = j → gq cs (off + j) 1 = some [.d (f v)] → EW q C ops (⟨dst, .indexAddr t x y, ty, ps, af, g⟩ :: rest) ⟨gs, hom, nx⟩ R := by
  intro j hj hij hp
  subst hij
  refine cm hw (v := .pt id (off + j)) (H1 := hom) (n1 := nx) (ph ?_) (fun _ => ⟨rfl, rfl⟩) (h v _ h2 hp)
  simp only [dJ, hx, hy, iR, he, ha, (bp hz).1]
  rw [if_neg (by omega), if_pos (by omega)]
  simp
 have hcut : ∀ j : Nat, j < 2 → gq cs (off + j) 1 = (([.d (f w.e0), .d (f w.e1)] : List AV)[j]?).map fun c => [c] := by
  intro j hj
  unfold gq at hc ⊢
  split at hc
  ·rename_i hle
   have h1 : off + j < cs.length := by omega
   rw [if_pos (by omega)]
   have e := Option.some.inj hc
   have e2 : (cs.drop (off + j)).take 1 = [cs[off + j]] := by rw [List.drop_eq_getElem_cons h1]; rfl
   rw [← e, List.getElem?_take, if_pos hj, List.getElem?_drop, List.getElem?_eq_getElem h1, e2]
   rfl
  ·cases hc
 unfold A2.get at h1
 split at h1
 ·rename_i e; cases h1; exact key 0 (by omega) (by simpa using e) (by rw [hcut 0 (by omega)]; rfl)
 ·split at h1
  ·rename_i e; cases h1; exact key 1 (by omega) (by simpa using e) (by rw [hcut 1 (by omega)]; rfl)
  ·cases h1
theorem I2 {α : Type} {f : α → Dat} {w : A3 α} {a : Bool} {el : TypeId} {i : Int} {kd : IntKind} {k : α → Option ρ} {off id : Nat} {cs : List AV} (hm : ((w.get i) >>= k) = some r) (hw : am ops gs ⟨dst, .indexAddr t x y, ty, ps, af, g⟩ = some true) (ha : iq C t = some (3, el)) (he : cd C t = none) (hz : szg C el = some (1, a))
  (hx : ev C ⟨gs, hom, nx⟩ x = .pt id off) (hy : ev C ⟨gs, hom, nx⟩ y = .d (.int kd i)) (hc : gq cs off 3 = some [.d (f w.e0), .d (f w.e1), .d (f w.e2)])
  (h : ∀ v o', k v = some r → gq cs o' 1 = some [.d (f v)] → EW q C ops rest ⟨aK gs dst (.pt id o'), hom, nx⟩ R) : EW q C ops (⟨dst, .indexAddr t x y, ty, ps, af, g⟩ :: rest) ⟨gs, hom, nx⟩ R := by
 obtain ⟨v, h1, h2⟩ := Option.bind_eq_some_iff.1 hm
 have key : ∀ j : Nat, j < 3 → i = j → gq cs (off + j) 1 = some [.d (f v)] → EW q C ops (⟨dst, .indexAddr t x y, ty, ps, af, g⟩ :: rest) ⟨gs, hom, nx⟩ R := by
  intro j hj hij hp
  subst hij
  refine cm hw (v := .pt id (off + j)) (H1 := hom) (n1 := nx) (ph ?_) (fun _ => ⟨rfl, rfl⟩) (h v _ h2 hp)
  simp only [dJ, hx, hy, iR, he, ha, (bp hz).1]
  rw [if_neg (by omega), if_pos (by omega)]
  simp
 have hcut : ∀ j : Nat, j < 3 → gq cs (off + j) 1 = (([.d (f w.e0), .d (f w.e1), .d (f w.e2)] : List AV)[j]?).map fun c => [c] := by
  intro j hj
  unfold gq at hc ⊢
  split at hc
  ·rename_i hle
   have h1 : off + j < cs.length := by omega
   rw [if_pos (by omega)]
   have e := Option.some.inj hc
   have e2 : (cs.drop (off + j)).take 1 = [cs[off + j]] := by rw [List.drop_eq_getElem_cons h1]; rfl
   rw [← e, List.getElem?_take, if_pos hj, List.getElem?_drop, List.getElem?_eq_getElem h1, e2]
   rfl
  ·cases hc
 unfold A3.get at h1
 split at h1
 ·rename_i e; cases h1; exact key 0 (by omega) (by simpa using e) (by rw [hcut 0 (by omega)]; rfl)
 ·split at h1
  ·rename_i e; cases h1; exact key 1 (by omega) (by simpa using e) (by rw [hcut 1 (by omega)]; rfl)
  ·split at h1
   ·rename_i e; cases h1; exact key 2 (by omega) (by simpa using e) (by rw [hcut 2 (by omega)]; rfl)
   ·cases h1
theorem FE {l : List Item} {i id o : Nat} {cs : List AV} {d : Dat} (hw : am ops gs ⟨dst, .load t x, ty, ps, af, g⟩ = some true) (hz : szg C t = some (1, false)) (hH : HP hom nx l) (hi : l[i]? = some (.box id cs))
  (hx : ev C ⟨gs, hom, nx⟩ x = .pt id o) (hr : gq cs o 1 = some [.d d])
  (h : EW q C ops rest ⟨aK gs dst (.d d), hom, nx⟩ R) : EW q C ops (⟨dst, .load t x, ty, ps, af, g⟩ :: rest) ⟨gs, hom, nx⟩ R :=
 aF hw hz hH hi hx (by rw [hr]; rfl) h
theorem sk {H : Hs} {n : Nat} {L : List Item} {j : Nat} {w : AV} {z : Row} {xs : List Dat} (N : Nat) (hH : HP H n L) (hj : L[j]? = some (.imm w z xs)) : see (N + 1) H w = some (.lst xs) := by
 rcases hH.get hj with ⟨rfl, rfl⟩ | ⟨id, lo, zs, rfl, h4, h5, h6⟩
 ·rfl
 ·simp only [see, h4]
  rw [if_pos ⟨by omega, h5⟩, h6]
theorem J5 {α : Type} {enc : α → Dat} {l : List α} {el : TypeId} {L : List Item} {j : Nat} {w : AV} {z : Row} (hw : am ops gs ⟨dst, .call ⟨.builtin .len, #[x], #[t]⟩, ty, ps, af, g⟩ = some true) (he : cd C t = some el)
  (hH : HP hom nx L) (hj : L[j]? = some (.imm w z (l.map enc))) (hx : ev C ⟨gs, hom, nx⟩ x = w)
  (h : EW q C ops rest ⟨aK gs dst (.d (.int .i64 (l.length : Int))), hom, nx⟩ R) : EW q C ops (⟨dst, .call ⟨.builtin .len, #[x], #[t]⟩, ty, ps, af, g⟩ :: rest) ⟨gs, hom, nx⟩ R := by
 obtain ⟨y, h1, h2⟩ := jl he
 refine yW hw ?_ h
 rcases hH.get hj with ⟨h3, h4⟩ | ⟨id, lo, zs, h3, h4, h5, h6⟩
 ·simp only [List.map_eq_nil_iff] at h4
  subst h4
  simp [nc, h1, h2, hx, h3]
 ·simp [nc, h1, h2, hx, h3]
theorem kX {α : Type} {enc : α → Dat} {l : List α} {A M : Int} {k : List α → Option ρ} {lo hi : Option Operand} {el : TypeId} {m : Nat} {a : Bool} {L : List Item} {j : Nat} {w : AV} (hm : ((cut l A M) >>= k) = some r) (hw : am ops gs ⟨dst, .slice t x lo hi none, ty, ps, af, g⟩ = some true)
  (he : cd C t = some el) (hz : szg C el = some (m, a)) (hH : HP hom nx L) (hj : L[j]? = some (.imm w ⟨el, m⟩ (l.map enc))) (hx : ev C ⟨gs, hom, nx⟩ x = w) (hb : LH l.length (lo.map (ev C ⟨gs, hom, nx⟩)) (hi.map (ev C ⟨gs, hom, nx⟩)) A M)
  (h : ∀ v w', k v = some r → HP hom nx (.imm w' ⟨el, m⟩ (v.map enc) :: L) → EW q C ops rest ⟨aK gs dst w', hom, nx⟩ R) : EW q C ops (⟨dst, .slice t x lo hi none, ty, ps, af, g⟩ :: rest) ⟨gs, hom, nx⟩ R := by
 obtain ⟨v, h1, h2⟩ := Option.bind_eq_some_iff.1 hm
 unfold cut at h1
 obtain ⟨ye, h3, h4⟩ := jl he
 have hadd : ∀ w' xs, (Item.imm w' ⟨el, m⟩ xs).ok hom → (∀ i ∈ aH w', i < nx) → HP hom nx (.imm w' ⟨el, m⟩ xs :: L) := fun w' xs hk hi => ⟨by rw [List.flatMap_cons]; simpa [Item.live] using hH.nd, fun it hit => by
  rcases List.mem_cons.1 hit with rfl | hit
  ·exact hk
  ·exact hH.ok it hit, fun it hit i hm => by
  rcases List.mem_cons.1 hit with rfl | hit
  ·exact hi i hm
  ·exact hH.lt it hit i hm⟩
 split at h1
 ·rename_i h0
  cases h1
  have hlh := hb h0.1 h0.2.1 h0.2.2
  rcases hH.get hj with ⟨h5, h6⟩ | ⟨id, p, zs, h5, h6, h7, h8⟩
  ·simp only [List.map_eq_nil_iff] at h6
   subst h6
   refine cm hw (v := .nil) (H1 := hom) (n1 := nx) (lu ?_) (fun _ => ⟨rfl, rfl⟩) (h _ _ h2 (hadd _ _ (.inl ⟨rfl, by simp⟩) (by simp [aH])))
   simp only [List.length_nil] at hlh
   simp only [gr, h3, h4, hx, h5, Bool.false_eq_true, if_false, (bp hz).1, Option.isSome_some, if_true, hlh]
   rfl
  ·rw [List.length_map] at h5 h7 h8
   have hlen : (List.take (M.toNat - A.toNat) (List.drop A.toNat l)).length = M.toNat - A.toNat := by simp; omega
   refine cm hw (v := .sl id (p + A.toNat) (p + M.toNat)) (H1 := hom) (n1 := nx) (lu ?_) (fun _ => ⟨rfl, rfl⟩) (h _ _ h2 (hadd _ _ (.inr ⟨id, p + A.toNat, zs, ?_, h6, ?_, ?_⟩) ?_))
   ·have hsz : nR (hom id) (some m) = true := by simp [nR, h6, ud]
    simp only [gr, h3, h4, hx, h5, Bool.false_eq_true, if_false, (bp hz).1, hsz, if_true, Nat.add_sub_cancel_left, hlh]
    rfl
   ·rw [List.length_map, hlen]; congr 1; omega
   ·rw [List.length_map, hlen]; omega
   ·rw [List.length_map, hlen]
    have e : List.map enc (List.take (M.toNat - A.toNat) (List.drop A.toNat l)) = List.take (M.toNat - A.toNat) (List.drop A.toNat (win zs p (p + l.length))) := by rw [h8, List.map_take, List.map_drop]
    rw [e]
    simp only [win]
    rw [List.drop_take, List.take_take, List.drop_drop]
    congr 1
    omega
   ·intro i hi'
    simp only [aH, List.mem_singleton] at hi'
    subst hi'
    exact hH.lt _ (List.mem_of_getElem? hj) _ (by simp [Item.ids, h5, aH])
 ·cases h1
theorem tE {α : Type} {enc : α → Dat} {l : List α} {i o : Nat} {el : TypeId} {m m' : Nat} {a : Bool} {L : List Item} {j id : Nat} {w : AV} {e e' : α} {d : Dat} (hw : am ops gs ⟨dst, .store t x y, ty, ps, af, g⟩ = some true) (hz : szg C t = some (m, a))
  (hH : HP hom nx L) (hj : L[j]? = some (.own w ⟨el, m'⟩ (l.map enc))) (hid : w = .sl id 0 l.length) (hx : ev C ⟨gs, hom, nx⟩ x = .pe id i o) (he : l[i]? = some e) (hd : dN (ev C ⟨gs, hom, nx⟩ y) = some d)
  (hl : d.cells.length = m) (hk : (d.cells.map AV.d).all okC = true) (ho : o + m ≤ (enc e).cells.length)
  (hr : (match enc e with | .agg cs => some (Dat.agg (cC cs o d.cells)) | _ => (match d.cells with | [c] => some c | _ => none)) = some (enc e'))
  (h : ∀ l' H', l' = l.set i e' → w = .sl id 0 l'.length → l'[i]? = some e' → HP H' nx (L.set j (.own w ⟨el, m'⟩ (l'.map enc))) → EW false C ops rest ⟨aK gs dst .undef, H', nx⟩ R) :
  EW false C ops (⟨dst, .store t x y, ty, ps, af, g⟩ :: rest) ⟨gs, hom, nx⟩ R := by
 obtain ⟨h1, h2⟩ := bp hz
 have hlt : i < l.length := (List.getElem?_eq_some_iff.1 he).1
 rcases hH.get hj with ⟨h3, _⟩ | ⟨id', ys, h3, h4⟩
 ·rw [hid] at h3; cases h3
 ·rw [hid] at h3
  injection h3 with h5
  subst h5
  have hg : (l.map enc ++ ys)[i]? = some (enc e) := by
   rw [List.getElem?_append_left (by simpa using hlt)]
   simp [he]
  have hset : (l.map enc ++ ys).set i (enc e') = (l.set i e').map enc ++ ys := by
   rw [List.set_append_left _ _ (by simpa using hlt), List.map_set]
  have hst : ke C hom t (ev C ⟨gs, hom, nx⟩ x) (ev C ⟨gs, hom, nx⟩ y) = some (upd hom id (.own ⟨el, m'⟩ ((l.set i e').map enc ++ ys))) := by
   simp only [ke, h1, hx, hd, h4, hg]
   rw [if_pos ⟨hl, hk, ho⟩]
   revert hr
   cases hee : enc e with
   | agg cs => intro hr; simp only [Option.some.injEq] at hr; simp only [hr, hset]
   | _ =>
    intro hr
    simp only at hr ⊢
    split at hr
    ·rename_i c hc
     simp only [Option.some.injEq] at hr
     subst hr
     rw [hc]
     simp only [hset]
    ·cases hr
  refine cm hw (D1 hst) (by simp) (h _ _ rfl (by simpa using hid) (by simp [hlt]) ?_)
  refine ((hH.pick j hj).write (b := .own w ⟨el, m'⟩ ((l.set i e').map enc)) (h := id) (by simp [Item.live, hid, aH]) (by simp [Item.ids, hid, aH]) ?_).perm (nb _ _ _ _ hj)
  exact .inr ⟨id, ys, by simpa using hid, by simp [upd]⟩
theorem HP.okImm {H : Hs} {n : Nat} {L : List Item} (hH : HP H n L) {j : Nat} {w : AV} {z : Row} {xs : List Dat} (hj : L[j]? = some (.imm w z xs)) : okC w = true ∧ w.cells = [w] := by
 rcases hH.get hj with ⟨rfl, _⟩ | ⟨id, lo, ys, rfl, _⟩ <;> exact ⟨rfl, rfl⟩
theorem ro {α β : Type} (a : α) (f : α → Option β) : ((some a >>= f) : Option β) = f a := rfl
theorem FF {α : Type} {enc : α → Dat} {l : List α} {i o : Nat} {el : TypeId} {m m' : Nat} {a : Bool} {L : List Item} {j id : Nat} {w : AV} {e : α} {d : Dat} (hz : szg C t = some (m, a))
  (hH : HP hom nx L) (hj : L[j]? = some (.own w ⟨el, m'⟩ (l.map enc))) (hid : w = .sl id 0 l.length) (hx : ev C ⟨gs, hom, nx⟩ x = .pe id i o) (he : l[i]? = some e) (hr : (jO (enc e).cells o m).bind (mkD a) = some d) :
  opV C (ev C ⟨gs, hom, nx⟩) (.load t x) hom nx = some (.d d, hom, nx) := by
 obtain ⟨h1, h2⟩ := bp hz
 rcases hH.get hj with ⟨h3, _⟩ | ⟨id', ys, h3, h4⟩
 ·rw [hid] at h3; cases h3
 ·rw [hid] at h3
  injection h3 with h5
  subst h5
  have hg : (l.map enc ++ ys)[i]? = some (enc e) := by
   rw [List.getElem?_append_left (by simpa using (List.getElem?_eq_some_iff.1 he).1)]
   simp [he]
  exact uV (by simp only [iQ, h1, h2, hx, h4, hg, hr]; rfl)
end
end Go.Jv
namespace Go.Jv
section
variable {P : Program}
def inK (k : IntKind) (n : Int) : Prop := (Lit.int k n).wf = true
def nZ (s : ByteArray) : Prop := s.size ≤ reachBytes
def ft {α : Type} (B : Nat) (wf : α → Prop) (l : List α) : Prop := l.length * B ≤ reachBytes ∧ ∀ v ∈ l, wf v
theorem dF {t : TypeId} {k : IntKind} {x : Dat} (hu : P.underlying t = some (.int k)) (h : Has P t x) : ∃ n, x = .int k n ∧ inK k n := by
 cases h with
 | int n h hn => rw [hu] at h; cases h; exact ⟨n, rfl, hn⟩
 | bool b h => rw [hu] at h; cases h
 | str s h => rw [hu] at h; cases h
 | lst xs h => rw [hu] at h; cases h
 | ptr x h => rw [hu] at h; cases h
 | nilp h => rw [hu] at h; cases h
 | struct p h => rw [hu] at h; cases h
 | array p h => rw [hu] at h; cases h
theorem K1 {t : TypeId} {x : Dat} (hu : P.underlying t = some .bool) (h : Has P t x) : ∃ b, x = .bool b ∧ True := by
 cases h with
 | bool b h => exact ⟨b, rfl, trivial⟩
 | int n h hn => rw [hu] at h; cases h
 | str s h => rw [hu] at h; cases h
 | lst xs h => rw [hu] at h; cases h
 | ptr x h => rw [hu] at h; cases h
 | nilp h => rw [hu] at h; cases h
 | struct p h => rw [hu] at h; cases h
 | array p h => rw [hu] at h; cases h
theorem nz {t : TypeId} {x : Dat} (hu : P.underlying t = some .string) (h : Has P t x) : ∃ s, x = .str s ∧ nZ s := by
 cases h with
 | str s h hs => exact ⟨s, rfl, hs⟩
 | bool b h => rw [hu] at h; cases h
 | int n h hn => rw [hu] at h; cases h
 | lst xs h => rw [hu] at h; cases h
 | ptr x h => rw [hu] at h; cases h
 | nilp h => rw [hu] at h; cases h
 | struct p h => rw [hu] at h; cases h
 | array p h => rw [hu] at h; cases h
theorem M9 {α : Type} {enc : α → Dat} {wf : α → Prop} : ∀ {xs : List Dat}, (∀ x ∈ xs, ∃ v : α, x = enc v ∧ wf v) → ∃ l : List α, xs = l.map enc ∧ ∀ v ∈ l, wf v := by
 intro xs
 induction xs with
 | nil => intro _; exact ⟨[], rfl, by simp⟩
 | cons x xs ih =>
  intro h
  obtain ⟨v, rfl, hv⟩ := h x List.mem_cons_self
  obtain ⟨l, rfl, hl⟩ := ih fun y hy => h y (List.mem_cons_of_mem _ hy)
  refine ⟨v :: l, rfl, fun w hw => ?_⟩
  rcases List.mem_cons.1 hw with rfl | hw
  ·exact hv
  ·exact hl w hw
theorem lw {α : Type} {enc : α → Dat} {wf : α → Prop} {t e : TypeId} {B : Nat} {x : Dat} (hu : P.underlying t = some (.slice e)) (hB : P.bytesOf e = B) (hd : ∀ y, Has P e y → ∃ v : α, y = enc v ∧ wf v) (h : Has P t x) : ∃ l : List α, x = .lst (l.map enc) ∧ ft B wf l := by
 cases h with
 | lst xs h hb hx =>
  rw [hu] at h; cases h
  obtain ⟨l, rfl, hl⟩ := M9 fun y hy => hd y (hx y hy)
  exact ⟨l, rfl, by rw [← hB]; simpa using hb, hl⟩
 | bool b h => rw [hu] at h; cases h
 | int n h hn => rw [hu] at h; cases h
 | str s h => rw [hu] at h; cases h
 | ptr x h => rw [hu] at h; cases h
 | nilp h => rw [hu] at h; cases h
 | struct p h => rw [hu] at h; cases h
 | array p h => rw [hu] at h; cases h
def C9 (P : Program) : List TypeId → List Dat → Prop
 | [], [] => True
 | t :: ts, x :: xs => Has P t x ∧ C9 P ts xs
 | _, _ => False
theorem DG : ∀ {ts : List TypeId} {xs : List Dat}, xs.length = ts.length → (∀ (i : Nat) t x, ts[i]? = some t → xs[i]? = some x → Has P t x) → C9 P ts xs := by
 intro ts
 induction ts with
 | nil => intro xs h _; cases xs with | nil => trivial | cons => simp at h
 | cons t ts ih =>
  intro xs h hx
  cases xs with
  | nil => simp at h
  | cons x xs => exact ⟨hx 0 t x rfl rfl, ih (by simpa using h) fun i t' x' ht hx' => hx (i + 1) t' x' (by simpa using ht) (by simpa using hx')⟩
theorem fu {t : TypeId} {fs : Array Field} {ts : List TypeId} {x : Dat} (hu : P.underlying t = some (.struct fs)) (hts : fs.toList.map (·.type) = ts) (h : Has P t x) : ∃ parts, x = .agg (parts.flatMap Dat.cells) ∧ C9 P ts parts := by
 cases h with
 | struct parts h hl hx =>
  rw [hu] at h; cases h
  refine ⟨parts, rfl, DG (by rw [← hts]; simpa using hl) fun i t' x' ht hx' => ?_⟩
  rw [← hts, List.getElem?_map] at ht
  obtain ⟨f, hf, rfl⟩ := Option.map_eq_some_iff.1 ht
  exact hx i f x' (by simpa using hf) hx'
 | bool b h => rw [hu] at h; cases h
 | int n h hn => rw [hu] at h; cases h
 | str s h => rw [hu] at h; cases h
 | lst xs h => rw [hu] at h; cases h
 | ptr x h => rw [hu] at h; cases h
 | nilp h => rw [hu] at h; cases h
 | array p h => rw [hu] at h; cases h
end
end Go.Jv
