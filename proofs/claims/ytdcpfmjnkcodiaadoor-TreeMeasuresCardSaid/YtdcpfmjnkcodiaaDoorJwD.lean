/- Steps of a walk beside a plain function: the rest. -/
import Derived.Test.YtdcpfmjnkcodiaaDoorJwC
namespace Go.Jv

def isStT (C : Cfg) (t : TypeId) : Bool := match C.ty t with | some y => (match y.desc with | .struct _ => true | _ => false) | none => false

section
variable {C : Cfg} {gs : Nat → AV} {hom : Hs} {nx : Nat} {q : Bool} {ops : Array Oper} {rest : List Oper} {R : St → Prop} {Q : Ex → St → Prop}
variable {dst : Option Tmp} {ty : TypeId} {ps : String} {af : Array Edge} {g : Option (Nat × Bool)} {t u : TypeId} {x y z : Operand} {v : AV} {ρ : Type} {r : ρ}

theorem dsc {t : TypeId} {d : TypeDesc} {a b : Nat} {zs : List AV} (h : C.ty t = some ⟨d, a, b, zs⟩) : (C.ty t).map (·.desc) = some d := by rw [h]; rfl

theorem alloc_z {l : List Item} {zs : List AV} (hw : wantedA ops gs ⟨dst, .alloc t, ty, ps, af, g⟩ = some true) (hy : (C.ty t).map (·.zero) = some zs) (hH : HP hom nx l)
    (h : ∀ id H' n', HP H' n' (.box id zs :: l) → EW false C ops rest ⟨putR gs dst (.pt id 0), H', n'⟩ R) : EW false C ops (⟨dst, .alloc t, ty, ps, af, g⟩ :: rest) ⟨gs, hom, nx⟩ R := by
  obtain ⟨yt, h1, rfl⟩ := Option.map_eq_some_iff.1 hy
  exact w_alloc hw h1 hH h

theorem w_quo {kd : IntKind} {a b : Int} {k : Int → Option ρ} (hm : (quoI kd a b).bind k = some r) (hw : wantedA ops gs ⟨dst, .binOp .quo t x y u, ty, ps, af, g⟩ = some true)
    (hx : ev C ⟨gs, hom, nx⟩ x = .d (.int kd a)) (hy : ev C ⟨gs, hom, nx⟩ y = .d (.int kd b)) (h : ∀ v, k v = some r → EW q C ops rest ⟨putR gs dst (.d (.int kd v)), hom, nx⟩ R) : EW q C ops (⟨dst, .binOp .quo t x y u, ty, ps, af, g⟩ :: rest) ⟨gs, hom, nx⟩ R :=
  w_opt (f := fun v => .d (.int kd v)) hm hw (fun v hv => o_bin (by
    unfold quoI at hv
    split at hv
    · cases hv
    · rename_i h0; cases hv; rw [hx, hy]; simp [binA, datA, binD, binI, h0])) (fun _ => rfl) h
theorem w_rem {kd : IntKind} {a b : Int} {k : Int → Option ρ} (hm : (remI a b).bind k = some r) (hw : wantedA ops gs ⟨dst, .binOp .rem t x y u, ty, ps, af, g⟩ = some true)
    (hx : ev C ⟨gs, hom, nx⟩ x = .d (.int kd a)) (hy : ev C ⟨gs, hom, nx⟩ y = .d (.int kd b)) (h : ∀ v, k v = some r → EW q C ops rest ⟨putR gs dst (.d (.int kd v)), hom, nx⟩ R) : EW q C ops (⟨dst, .binOp .rem t x y u, ty, ps, af, g⟩ :: rest) ⟨gs, hom, nx⟩ R :=
  w_opt (f := fun v => .d (.int kd v)) hm hw (fun v hv => o_bin (by
    unfold remI at hv
    split at hv
    · cases hv
    · rename_i h0; cases hv; rw [hx, hy]; simp [binA, datA, binD, binI, h0])) (fun _ => rfl) h
theorem w_shl {kd kb : IntKind} {a b : Int} {k : Int → Option ρ} (hm : (shlI kd a b).bind k = some r) (hw : wantedA ops gs ⟨dst, .binOp .shl t x y u, ty, ps, af, g⟩ = some true)
    (hx : ev C ⟨gs, hom, nx⟩ x = .d (.int kd a)) (hy : ev C ⟨gs, hom, nx⟩ y = .d (.int kb b)) (h : ∀ v, k v = some r → EW q C ops rest ⟨putR gs dst (.d (.int kd v)), hom, nx⟩ R) : EW q C ops (⟨dst, .binOp .shl t x y u, ty, ps, af, g⟩ :: rest) ⟨gs, hom, nx⟩ R :=
  w_opt (f := fun v => .d (.int kd v)) hm hw (fun v hv => o_bin (by
    unfold shlI at hv
    split at hv
    · cases hv
    · rename_i h0; cases hv; rw [hx, hy]; simp [binA, datA, binD, h0])) (fun _ => rfl) h
theorem w_shr {kd kb : IntKind} {a b : Int} {k : Int → Option ρ} (hm : (shrI kd a b).bind k = some r) (hw : wantedA ops gs ⟨dst, .binOp .shr t x y u, ty, ps, af, g⟩ = some true)
    (hx : ev C ⟨gs, hom, nx⟩ x = .d (.int kd a)) (hy : ev C ⟨gs, hom, nx⟩ y = .d (.int kb b)) (h : ∀ v, k v = some r → EW q C ops rest ⟨putR gs dst (.d (.int kd v)), hom, nx⟩ R) : EW q C ops (⟨dst, .binOp .shr t x y u, ty, ps, af, g⟩ :: rest) ⟨gs, hom, nx⟩ R :=
  w_opt (f := fun v => .d (.int kd v)) hm hw (fun v hv => o_bin (by
    unfold shrI at hv
    split at hv
    · cases hv
    · rename_i h0; cases hv; rw [hx, hy]; simp [binA, datA, binD, h0])) (fun _ => rfl) h
theorem w_cat {a b : ByteArray} {k : ByteArray → Option ρ} (hm : (cat a b).bind k = some r) (hw : wantedA ops gs ⟨dst, .binOp .add t x y u, ty, ps, af, g⟩ = some true)
    (hx : ev C ⟨gs, hom, nx⟩ x = .d (.str a)) (hy : ev C ⟨gs, hom, nx⟩ y = .d (.str b)) (h : ∀ v, k v = some r → EW q C ops rest ⟨putR gs dst (.d (.str v)), hom, nx⟩ R) : EW q C ops (⟨dst, .binOp .add t x y u, ty, ps, af, g⟩ :: rest) ⟨gs, hom, nx⟩ R :=
  w_opt (f := fun v => .d (.str v)) hm hw (fun v hv => o_bin (by
    unfold cat at hv
    split at hv
    · rename_i h0; cases hv; rw [hx, hy]; simp [binA, datA, binD, h0]
    · cases hv)) (fun _ => rfl) h

theorem c_int {a b : TypeId} {ka kb k : IntKind} {s1 s2 b1 b2 : Nat} {z1 z2 : List AV} (h1 : C.ty a = some ⟨.int ka, s1, b1, z1⟩) (h2 : C.ty b = some ⟨.int kb, s2, b2, z2⟩) {n : Int} : convA C a b (.d (.int k n)) = some (.d (.int kb (kb.wrap n))) := by
  simp [convA, h1, h2]

theorem w_sidx {b : ByteArray} {i : Int} {kd : IntKind} {k : Int → Option ρ} {a1 a2 : Nat} {zs : List AV} (hm : (sidx b i).bind k = some r) (hw : wantedA ops gs ⟨dst, .index t x y, ty, ps, af, g⟩ = some true) (hd : C.ty t = some ⟨.string, a1, a2, zs⟩)
    (hx : ev C ⟨gs, hom, nx⟩ x = .d (.str b)) (hy : ev C ⟨gs, hom, nx⟩ y = .d (.int kd i)) (h : ∀ v, k v = some r → EW q C ops rest ⟨putR gs dst (.d (.int .u8 v)), hom, nx⟩ R) : EW q C ops (⟨dst, .index t x y, ty, ps, af, g⟩ :: rest) ⟨gs, hom, nx⟩ R :=
  w_opt (f := fun v => .d (.int .u8 v)) hm hw (fun v hv => by
    unfold sidx at hv
    split at hv
    · rename_i h0
      obtain ⟨c, h1, rfl⟩ := Option.map_eq_some_iff.1 hv
      rw [opV_act (fun _ _ _ h => by cases h)]
      simp only [act, indexA, hx, hy, intOfA, hd]
      rw [if_neg (by omega)]
      simp [h1]
    · cases hv) (fun _ => rfl) h

/-- an element of a package-level table -/
theorem w_idx_g {α : Type} {enc : α → Dat} {l : List α} {i : Int} {kd : IntKind} {gl n : Nat} {el : TypeId} {a : Bool} {k : α → Option ρ} (hm : (idx l i).bind k = some r) (hw : wantedA ops gs ⟨dst, .indexAddr t (.global gl) y, ty, ps, af, g⟩ = some true)
    (ha : arrT C t = some (n, el)) (hz : szg C el = some (1, a)) (hg : C.glob gl = some (l.map enc)) (hl : l.length = n) (hy : ev C ⟨gs, hom, nx⟩ y = .d (.int kd i)) (hs : elemT C t = none)
    (h : ∀ v, k v = some r → ∀ rest', l.map enc = (l.map enc).take i.toNat ++ enc v :: rest' → EW q C ops rest ⟨putR gs dst (.d (.ptr (enc v :: rest'))), hom, nx⟩ R) : EW q C ops (⟨dst, .indexAddr t (.global gl) y, ty, ps, af, g⟩ :: rest) ⟨gs, hom, nx⟩ R := by
  obtain ⟨v, h1, h2⟩ := Option.bind_eq_some_iff.1 hm
  obtain ⟨h0, h3⟩ := get_of_idx h1
  have hlt : i.toNat < l.length := (List.getElem?_eq_some_iff.1 h3).1
  have hd : (l.map enc).drop i.toNat = enc v :: (l.map enc).drop (i.toNat + 1) := by
    rw [List.drop_eq_getElem_cons (by simpa using hlt)]
    have : (l.map enc)[i.toNat]? = some (enc v) := by simp [h3]
    rw [List.getElem?_eq_getElem (by simpa using hlt)] at this
    rw [Option.some.inj this]
  refine w_op hw (v := .d (.ptr ((l.map enc).drop i.toNat))) (H1 := hom) (n1 := nx) (o_iaddr ?_) (fun _ => rfl) ?_
  · have hev : ev C ⟨gs, hom, nx⟩ (.global gl) = .d (.ptr (l.map enc)) := by simp [ev, hg]
    simp only [indexAddrA, hy, intOfA, hs, ha, (szg_parts hz).1, hev]
    rw [if_neg (by omega), if_pos (by omega)]
    simp
  · have hp : putR gs dst (AV.d (Dat.ptr (List.drop i.toNat (l.map enc)))) = putR gs dst (AV.d (Dat.ptr (enc v :: (l.map enc).drop (i.toNat + 1)))) := by rw [hd]
    show EW q C ops rest ⟨putR gs dst (AV.d (Dat.ptr (List.drop i.toNat (l.map enc)))), hom, nx⟩ R
    rw [hp]
    exact h v h2 _ (by rw [← hd, List.take_append_drop])

/-- an element at a place that is known -/
theorem w_index {n m : Nat} {a : Bool} {el : TypeId} {i : Int} {kd : IntKind} (hw : wantedA ops gs ⟨dst, .index t x y, ty, ps, af, g⟩ = some true) (ha : arrT C t = some (n, el)) (hz : szg C el = some (m, a))
    (hs : (∀ b, ev C ⟨gs, hom, nx⟩ x ≠ .d (.str b))) (hy : ev C ⟨gs, hom, nx⟩ y = .d (.int kd i)) (hi : 0 ≤ i ∧ i < n) (hr : partA (ev C ⟨gs, hom, nx⟩ x) (i.toNat * m) m a = some v)
    (h : EW q C ops rest ⟨putR gs dst v, hom, nx⟩ R) : EW q C ops (⟨dst, .index t x y, ty, ps, af, g⟩ :: rest) ⟨gs, hom, nx⟩ R := by
  obtain ⟨h1, h2⟩ := szg_parts hz
  refine w_op hw (v := v) (H1 := hom) (n1 := nx) ?_ (fun _ => rfl) h
  rw [opV_act (fun _ _ _ h => by cases h)]
  simp only [act, indexA, hy, intOfA]
  rw [if_neg (by omega)]
  simp only [ha, h1, h2]
  rw [if_pos hi.2, hr]
  rfl

theorem w_index2 {α : Type} {f : α → Dat} {w : A2 α} {a : Bool} {el : TypeId} {i : Int} {kd : IntKind} {k : α → Option ρ} (hm : (w.get i).bind k = some r) (hw : wantedA ops gs ⟨dst, .index t x y, ty, ps, af, g⟩ = some true) (ha : arrT C t = some (2, el)) (hz : szg C el = some (1, a))
    (hx : ev C ⟨gs, hom, nx⟩ x = .d (.agg [f w.e0, f w.e1]) ∨ ev C ⟨gs, hom, nx⟩ x = .agg [.d (f w.e0), .d (f w.e1)]) (hy : ev C ⟨gs, hom, nx⟩ y = .d (.int kd i)) (hc : ∀ e, mkD a [f e] = some (f e)) (hc2 : ∀ e, mkA a [.d (f e)] = some (.d (f e)))
    (h : ∀ v, k v = some r → EW q C ops rest ⟨putR gs dst (.d (f v)), hom, nx⟩ R) : EW q C ops (⟨dst, .index t x y, ty, ps, af, g⟩ :: rest) ⟨gs, hom, nx⟩ R := by
  obtain ⟨v, h1, h2⟩ := Option.bind_eq_some_iff.1 hm
  have key : ∀ j : Int, 0 ≤ j ∧ j < (2 : Nat) → i = j → partA (ev C ⟨gs, hom, nx⟩ x) (j.toNat * 1) 1 a = some (.d (f v)) → EW q C ops (⟨dst, .index t x y, ty, ps, af, g⟩ :: rest) ⟨gs, hom, nx⟩ R := by
    intro j hj hij hp
    subst hij
    exact w_index hw ha hz (fun b hb => by rcases hx with e | e <;> rw [e] at hb <;> cases hb) hy hj hp (h v h2)
  unfold A2.get at h1
  split at h1
  · rename_i e; cases h1; exact key 0 (by omega) e (by rcases hx with e | e <;> rw [e] <;> simp [partA, cutA, cutD, hc, hc2])
  · split at h1
    · rename_i e; cases h1; exact key 1 (by omega) e (by rcases hx with e | e <;> rw [e] <;> simp [partA, cutA, cutD, hc, hc2])
    · cases h1

theorem w_index3 {α : Type} {f : α → Dat} {w : A3 α} {a : Bool} {el : TypeId} {i : Int} {kd : IntKind} {k : α → Option ρ} (hm : (w.get i).bind k = some r) (hw : wantedA ops gs ⟨dst, .index t x y, ty, ps, af, g⟩ = some true) (ha : arrT C t = some (3, el)) (hz : szg C el = some (1, a))
    (hx : ev C ⟨gs, hom, nx⟩ x = .d (.agg [f w.e0, f w.e1, f w.e2]) ∨ ev C ⟨gs, hom, nx⟩ x = .agg [.d (f w.e0), .d (f w.e1), .d (f w.e2)]) (hy : ev C ⟨gs, hom, nx⟩ y = .d (.int kd i)) (hc : ∀ e, mkD a [f e] = some (f e)) (hc2 : ∀ e, mkA a [.d (f e)] = some (.d (f e)))
    (h : ∀ v, k v = some r → EW q C ops rest ⟨putR gs dst (.d (f v)), hom, nx⟩ R) : EW q C ops (⟨dst, .index t x y, ty, ps, af, g⟩ :: rest) ⟨gs, hom, nx⟩ R := by
  obtain ⟨v, h1, h2⟩ := Option.bind_eq_some_iff.1 hm
  have key : ∀ j : Int, 0 ≤ j ∧ j < (3 : Nat) → i = j → partA (ev C ⟨gs, hom, nx⟩ x) (j.toNat * 1) 1 a = some (.d (f v)) → EW q C ops (⟨dst, .index t x y, ty, ps, af, g⟩ :: rest) ⟨gs, hom, nx⟩ R := by
    intro j hj hij hp
    subst hij
    exact w_index hw ha hz (fun b hb => by rcases hx with e | e <;> rw [e] at hb <;> cases hb) hy hj hp (h v h2)
  unfold A3.get at h1
  split at h1
  · rename_i e; cases h1; exact key 0 (by omega) e (by rcases hx with e | e <;> rw [e] <;> simp [partA, cutA, cutD, hc, hc2])
  · split at h1
    · rename_i e; cases h1; exact key 1 (by omega) e (by rcases hx with e | e <;> rw [e] <;> simp [partA, cutA, cutD, hc, hc2])
    · split at h1
      · rename_i e; cases h1; exact key 2 (by omega) e (by rcases hx with e | e <;> rw [e] <;> simp [partA, cutA, cutD, hc, hc2])
      · cases h1

/-- the bounds of a part -/
def LH (n : Nat) (lo hi : Option AV) (L Hh : Int) : Prop := 0 ≤ L → L ≤ Hh → Hh ≤ n → loHi n lo hi = some (L.toNat, Hh.toNat)
theorem lh_nn {n : Nat} : LH n none none 0 n := fun _ _ _ => by simp [loHi]
theorem lh_ln {n : Nat} {L : Int} : LH n (some (.d (.int .i64 L))) none L n := fun h1 h2 _ => by simp only [loHi, natOf, if_pos h1]; rw [if_pos (by omega)]; simp
theorem lh_nh {n : Nat} {M : Int} : LH n none (some (.d (.int .i64 M))) 0 M := fun h1 h2 h3 => by simp only [loHi, natOf, if_pos h2]; rw [if_pos (by omega)]; rfl
theorem lh_lh {n : Nat} {L M : Int} : LH n (some (.d (.int .i64 L))) (some (.d (.int .i64 M))) L M := fun h1 h2 h3 => by
  have h4 : 0 ≤ M := by omega
  simp only [loHi, natOf, if_pos h1, if_pos h4]; rw [if_pos (by omega)]

theorem w_scut {b : ByteArray} {L M : Int} {k : ByteArray → Option ρ} {lo hi : Option Operand} {a1 a2 : Nat} {zs : List AV} (hm : (scut b L M).bind k = some r) (hw : wantedA ops gs ⟨dst, .slice t x lo hi none, ty, ps, af, g⟩ = some true) (hd : C.ty t = some ⟨.string, a1, a2, zs⟩)
    (hx : ev C ⟨gs, hom, nx⟩ x = .d (.str b)) (hb : LH b.size (lo.map (ev C ⟨gs, hom, nx⟩)) (hi.map (ev C ⟨gs, hom, nx⟩)) L M)
    (h : ∀ v, k v = some r → EW q C ops rest ⟨putR gs dst (.d (.str v)), hom, nx⟩ R) : EW q C ops (⟨dst, .slice t x lo hi none, ty, ps, af, g⟩ :: rest) ⟨gs, hom, nx⟩ R :=
  w_opt (f := fun v => .d (.str v)) hm hw (fun v hv => o_slice (by
    unfold scut at hv
    split at hv
    · rename_i h0; cases hv; simp [sliceA, hd, hx, hb h0.1 h0.2.1 h0.2.2]
    · cases hv)) (fun _ => rfl) h

theorem w_cut {α : Type} {enc : α → Dat} {l : List α} {L M : Int} {k : List α → Option ρ} {lo hi : Option Operand} {el : TypeId} {m : Nat} {a : Bool} (hm : (cut l L M).bind k = some r) (hw : wantedA ops gs ⟨dst, .slice t x lo hi none, ty, ps, af, g⟩ = some true)
    (he : elemT C t = some el) (hz : szg C el = some (m, a)) (hc : ∀ v, (enc v).cells.length = m) (hx : ev C ⟨gs, hom, nx⟩ x = .d (.lst (l.map enc))) (hb : LH l.length (lo.map (ev C ⟨gs, hom, nx⟩)) (hi.map (ev C ⟨gs, hom, nx⟩)) L M)
    (h : ∀ v, k v = some r → EW q C ops rest ⟨putR gs dst (.d (.lst (v.map enc))), hom, nx⟩ R) : EW q C ops (⟨dst, .slice t x lo hi none, ty, ps, af, g⟩ :: rest) ⟨gs, hom, nx⟩ R :=
  w_opt (f := fun v => .d (.lst (v.map enc))) hm hw (fun v hv => o_slice (by
    unfold cut at hv
    obtain ⟨ye, h1, h2⟩ := elemT_ty he
    split at hv
    · rename_i h0
      cases hv
      have := hb h0.1 h0.2.1 h0.2.2
      rw [← List.length_map (f := enc)] at this
      simp only [sliceA, h1, h2, hx, this, (szg_parts hz).1, Bool.false_eq_true, if_false]
      rw [if_pos (.inr (by simp [hc]))]
      simp [win, List.map_take, List.map_drop]
    · cases hv)) (fun _ => rfl) h

/-- an own slice's first part: own -/
theorem w_cut_own {α : Type} {enc : α → Dat} {l : List α} {M : Int} {k : List α → Option ρ} {hi : Option Operand} {el : TypeId} {m : Nat} {a : Bool} {L : List Item} {j : Nat} {w : AV} (hm : (cut l 0 M).bind k = some r) (hw : wantedA ops gs ⟨dst, .slice t x none hi none, ty, ps, af, g⟩ = some true)
    (he : elemT C t = some el) (hz : szg C el = some (m, a)) (hH : HP hom nx L) (hj : L[j]? = some (.own w ⟨el, m⟩ (l.map enc))) (hx : ev C ⟨gs, hom, nx⟩ x = w) (hb : LH l.length none (hi.map (ev C ⟨gs, hom, nx⟩)) 0 M)
    (h : ∀ v w' H' n', k v = some r → HP H' n' (L.set j (.own w' ⟨el, m⟩ (v.map enc))) → EW q C ops rest ⟨putR gs dst w', H', n'⟩ R) : EW q C ops (⟨dst, .slice t x none hi none, ty, ps, af, g⟩ :: rest) ⟨gs, hom, nx⟩ R := by
  obtain ⟨v, h1, h2⟩ := Option.bind_eq_some_iff.1 hm
  unfold cut at h1
  obtain ⟨ye, h3, h4⟩ := elemT_ty he
  split at h1
  · rename_i h0
    cases h1
    have hlh := hb h0.1 h0.2.1 h0.2.2
    have hp := hH.pick j hj
    rcases hH.get hj with ⟨h5, h6⟩ | ⟨id, ys, h5, h6⟩
    · simp only [List.map_eq_nil_iff] at h6
      subst h6
      refine w_op hw (v := .nil) (H1 := hom) (n1 := nx) (o_slice ?_) (fun _ => rfl) (h _ _ _ _ h2 ?_)
      · simp only [List.length_nil] at hlh
        simp only [sliceA, h3, h4, hx, h5, Bool.false_eq_true, if_false, (szg_parts hz).1, Option.isSome_some, if_true, Option.map_none, hlh]
        rfl
      · have : (List.take (M.toNat - Int.toNat 0) (List.drop (Int.toNat 0) ([] : List α))) = [] := by simp
        rw [this]
        subst h5
        have e : L.set j (.own .nil ⟨el, m⟩ (([] : List α).map enc)) = L := by
          refine List.ext_getElem? fun i => ?_
          rw [List.getElem?_set]
          split
          · rename_i e; subst e
            split
            · exact hj.symm
            · rename_i hlt; rw [List.getElem?_eq_none (by omega)]
          · rfl
        rw [e]
        exact hH
    · rw [List.length_map] at h5
      refine w_op hw (v := .sl id 0 M.toNat) (H1 := hom) (n1 := nx) (o_slice ?_) (fun _ => rfl) (h _ _ _ _ h2 ?_)
      · have hsz : szIs (hom id) (some m) = true := by simp [szIs, h6, szOf]
        simp only [sliceA, h3, h4, hx, h5, Bool.false_eq_true, if_false, (szg_parts hz).1, hsz, if_true, Option.map_none, Nat.sub_zero, hlh]
        simp
      · refine HP.perm ?_ (set_perm _ _ _ _ hj)
        have hlen : (List.take (M.toNat - Int.toNat 0) (List.drop (Int.toNat 0) l)).length = M.toNat := by simp; omega
        refine ⟨?_, ?_, ?_⟩
        · have := hp.nd
          rw [List.flatMap_cons] at this ⊢
          simpa [Item.live, h5, idOf] using this
        · intro it hit
          rcases List.mem_cons.1 hit with rfl | hit
          · refine .inr ⟨id, (l.drop M.toNat).map enc ++ ys, by rw [List.length_map, hlen], ?_⟩
            rw [h6, ← List.append_assoc, ← List.map_append]
            simp
          · exact hp.ok it (List.mem_cons_of_mem _ hit)
        · intro it hit i hi'
          rcases List.mem_cons.1 hit with rfl | hit
          · exact hp.lt _ List.mem_cons_self i (by simpa [Item.ids, h5, idOf] using hi')
          · exact hp.lt it (List.mem_cons_of_mem _ hit) i hi'
  · cases h1

theorem w_len_n {el : TypeId} (hw : wantedA ops gs ⟨dst, .call ⟨.builtin .len, #[x], #[t]⟩, ty, ps, af, g⟩ = some true) (he : elemT C t = some el) (hx : ev C ⟨gs, hom, nx⟩ x = .nil)
    (h : EW q C ops rest ⟨putR gs dst (.d (.int .i64 0)), hom, nx⟩ R) : EW q C ops (⟨dst, .call ⟨.builtin .len, #[x], #[t]⟩, ty, ps, af, g⟩ :: rest) ⟨gs, hom, nx⟩ R := by
  obtain ⟨y, h1, h2⟩ := elemT_ty he
  exact w_len hw (by simp [lenA, h1, h2, hx]) h

theorem w_max {kd : IntKind} {a b : Int} {ts : Array TypeId} (hw : wantedA ops gs ⟨dst, .call ⟨.builtin .max, #[x, y], ts⟩, ty, ps, af, g⟩ = some true) (hx : ev C ⟨gs, hom, nx⟩ x = .d (.int kd a)) (hy : ev C ⟨gs, hom, nx⟩ y = .d (.int kd b))
    (h : EW q C ops rest ⟨putR gs dst (.d (.int kd (if b > a then b else a))), hom, nx⟩ R) : EW q C ops (⟨dst, .call ⟨.builtin .max, #[x, y], ts⟩, ty, ps, af, g⟩ :: rest) ⟨gs, hom, nx⟩ R :=
  w_op hw (o_max (by simp [maxA, hx, hy])) (fun _ => rfl) h
theorem w_min {kd : IntKind} {a b : Int} {ts : Array TypeId} (hw : wantedA ops gs ⟨dst, .call ⟨.builtin .min, #[x, y], ts⟩, ty, ps, af, g⟩ = some true) (hx : ev C ⟨gs, hom, nx⟩ x = .d (.int kd a)) (hy : ev C ⟨gs, hom, nx⟩ y = .d (.int kd b))
    (h : EW q C ops rest ⟨putR gs dst (.d (.int kd (if b < a then b else a))), hom, nx⟩ R) : EW q C ops (⟨dst, .call ⟨.builtin .min, #[x, y], ts⟩, ty, ps, af, g⟩ :: rest) ⟨gs, hom, nx⟩ R :=
  w_op hw (o_min (by simp [minA, hx, hy])) (fun _ => rfl) h

/-- an own slice is fixed -/
theorem fz_own {H : Hs} {n : Nat} {L : List Item} {j : Nat} {w : AV} {z : Row} {xs : List Dat} (hH : HP H n L) (hj : L[j]? = some (.own w z xs)) : ∃ H', frzAll H [w] = some ([.lst xs], H') := by
  rcases hH.get hj with ⟨rfl, rfl⟩ | ⟨id, ys, rfl, h4⟩
  · exact ⟨H, rfl⟩
  · refine ⟨upd H id (.imm z (xs ++ ys)), ?_⟩
    simp only [frzAll, frzL, frz, h4]
    rw [if_pos ⟨by omega, by simp⟩]
    simp [win]

theorem w_build {l : List (Nat × Nat)} {zs : List AV} {parts : Array (Nat × Operand)} {cs : List AV} (hw : wantedA ops gs ⟨dst, .build t parts, ty, ps, af, g⟩ = some true) (hz : (C.ty t).map (·.zero) = some zs) (hp : places C t = some l)
    (hf : fillA okCells (fun i => l[i]?) zs (parts.toList.map fun p => (p.1, ev C ⟨gs, hom, nx⟩ p.2)) = some cs)
    (h : EW q C ops rest ⟨putR gs dst (.agg cs), hom, nx⟩ R) : EW q C ops (⟨dst, .build t parts, ty, ps, af, g⟩ :: rest) ⟨gs, hom, nx⟩ R := by
  obtain ⟨yt, h1, rfl⟩ := Option.map_eq_some_iff.1 hz
  exact w_op hw (o_build (by rw [buildA_struct hp h1, hf]; rfl)) (fun _ => rfl) h

theorem w_buildA {n el m : Nat} {a : Bool} {zs : List AV} {parts : Array (Nat × Operand)} {cs : List AV} (hw : wantedA ops gs ⟨dst, .build t parts, ty, ps, af, g⟩ = some true) (hz : (C.ty t).map (·.zero) = some zs) (ha : arrT C t = some (n, el)) (he : szg C el = some (m, a))
    (hf : fillA okCells (fun i => some (i * m, m)) zs (parts.toList.map fun p => (p.1, ev C ⟨gs, hom, nx⟩ p.2)) = some cs)
    (h : EW q C ops rest ⟨putR gs dst (.agg cs), hom, nx⟩ R) : EW q C ops (⟨dst, .build t parts, ty, ps, af, g⟩ :: rest) ⟨gs, hom, nx⟩ R := by
  obtain ⟨yt, h1, rfl⟩ := Option.map_eq_some_iff.1 hz
  refine w_op hw (o_build (v := .agg cs) ?_) (fun _ => rfl) h
  have hd : yt.desc = .array n el := by
    unfold arrT at ha
    simp only [h1] at ha
    split at ha
    · rename_i n' e' hd; cases ha; exact hd
    · cases ha
  simp only [buildA, h1, hd, (szg_parts he).1]
  rw [show (fun (x : Nat × Operand) => match x with | (i, x) => (i, ev C ⟨gs, hom, nx⟩ x)) = fun p => (p.1, ev C ⟨gs, hom, nx⟩ p.2) from rfl, hf]
  rfl

/-- values that are plain, as parts of a literal slice -/
theorem partsD_known {sz : Nat} {H : Hs} : ∀ (vs : List AV) (xs pre : List Dat) (k : Nat) (post : List Dat), pre.length = k → post.length = vs.length → vs.length = xs.length →
    (∀ (i : Nat) v x, vs[i]? = some v → xs[i]? = some x → frz 4 H v = some (x, H) ∧ x.cells.length = sz ∧ (x.cells.map AV.d).all okC = true) →
    partsD sz H (pre ++ post) ((List.range' k vs.length).zip vs) = some (pre ++ xs, H) := by
  intro vs
  induction vs with
  | nil => intro xs pre k post h1 h2 h3 _; cases xs <;> simp at h3; cases post <;> simp at h2; simp [partsD]
  | cons v vs ih =>
    intro xs pre k post h1 h2 h3 h4
    cases xs with
    | nil => simp at h3
    | cons x xs =>
      cases post with
      | nil => simp at h2
      | cons p post =>
        obtain ⟨h5, h6, h7⟩ := h4 0 v x rfl rfl
        have := ih xs (pre ++ [x]) (k + 1) post (by simp [h1]) (by simpa using h2) (by simpa using h3) (fun i v' x' hv hx => h4 (i + 1) v' x' (by simpa using hv) (by simpa using hx))
        rw [List.length_cons, List.range'_succ, List.zip_cons_cons]
        simp only [partsD, h5]
        rw [if_pos ⟨by simp [← h1], h6, h7⟩]
        rw [show (pre ++ p :: post).set k x = pre ++ [x] ++ post by rw [← h1]; simp]
        simpa using this

theorem w_bslice {α : Type} {enc : α → Dat} {xs : List α} (vs : List AV) {el m : Nat} {a : Bool} {zs : List AV} {parts : Array (Nat × Operand)} {L : List Item} (hw : wantedA ops gs ⟨dst, .buildSlice t xs.length parts, ty, ps, af, g⟩ = some true)
    (he : elemT C t = some el) (hz : szg C el = some (m, a)) (hy : (C.ty el).map (·.zero) = some zs) (h0 : 0 < m ∧ xs.length * m ≤ 16777216) (hZ : ∃ z, zeroD C el = some z ∧ z.cells.length = m ∧ (z.cells.map AV.d).all okC = true) (hc : ∀ v, (enc v).cells.length = m) (hk : ∀ v, ((enc v).cells.map AV.d).all okC = true)
    (h1 : (parts.toList.map fun p => (p.1, ev C ⟨gs, hom, nx⟩ p.2)) = (List.range' 0 vs.length).zip vs) (h2 : List.map (fun v => frz 4 hom v) vs = xs.map fun v => some (enc v, hom))
    (hH : HP hom nx L) (h : ∀ w H' n', HP H' n' (.own w ⟨el, m⟩ (xs.map enc) :: L) → EW false C ops rest ⟨putR gs dst w, H', n'⟩ R) : EW false C ops (⟨dst, .buildSlice t xs.length parts, ty, ps, af, g⟩ :: rest) ⟨gs, hom, nx⟩ R := by
  obtain ⟨zd, h3, h4, h5⟩ := hZ
  obtain ⟨yt, h6, rfl⟩ := Option.map_eq_some_iff.1 hy
  have h7 : yt.size = m := by have := (szg_parts hz).1; simpa [sizeT, h6] using this
  have hl : vs.length = xs.length := by simpa using congrArg List.length h2
  have hpd : partsD m hom (List.replicate xs.length zd) ((List.range' 0 vs.length).zip vs) = some (xs.map enc, hom) := by
    have := partsD_known (sz := m) (H := hom) vs (xs.map enc) [] 0 (List.replicate xs.length zd) rfl (by simp [hl]) (by simp [hl]) (fun i v x hv hx => by
      have e1 : (List.map (fun v => frz 4 hom v) vs)[i]? = (xs.map fun v => some (enc v, hom))[i]? := by rw [h2]
      rw [List.getElem?_map, hv, List.getElem?_map] at e1
      rw [List.getElem?_map] at hx
      obtain ⟨e, he', rfl⟩ := Option.map_eq_some_iff.1 hx
      rw [he'] at e1
      exact ⟨Option.some.inj e1, hc e, hk e⟩)
    simpa using this
  have hp' : HP (upd hom nx (.own ⟨el, m⟩ (xs.map enc))) (nx + 1) (.own (.sl nx 0 xs.length) ⟨el, m⟩ (xs.map enc) :: L) :=
    hH.new (by simp [Item.ids, idOf]) (.inr ⟨nx, [], by simp, by simp [upd]⟩)
  refine w_op hw (v := .sl nx 0 xs.length) (H1 := upd hom nx (.own ⟨el, m⟩ (xs.map enc))) (n1 := nx + 1) ?_ (by simp) (h _ _ _ hp')
  rw [opV_act (fun _ _ _ h => by cases h)]
  simp only [act, he, h3, h6, h7]
  rw [if_pos ⟨h4, h5, h0.1, h0.2⟩]
  rw [show (parts.toList.map fun (x : Nat × Operand) => match x with | (i, x) => (i, ev C ⟨gs, hom, nx⟩ x)) = parts.toList.map fun p => (p.1, ev C ⟨gs, hom, nx⟩ p.2) from rfl, h1, hpd]

/-- what a stored own slice shows of itself -/
theorem HP.okOwn {H : Hs} {n : Nat} {L : List Item} (hH : HP H n L) {j : Nat} {w : AV} {z : Row} {xs : List Dat} (hj : L[j]? = some (.own w z xs)) : okC w = true ∧ w.cells = [w] := by
  rcases hH.get hj with ⟨rfl, _⟩ | ⟨id, ys, rfl, _⟩ <;> exact ⟨rfl, rfl⟩

theorem o_eqS {t u : TypeId} {x y : Operand} {e : Operand → AV} {H : Hs} {n : Nat} {as bs : List Dat} {qs : List Nat} {b : Bool} (hs : isStT C t = true) (hq : C.eqs t = some qs) (hx : datA (e x) = some (.agg as)) (hy : datA (e y) = some (.agg bs)) (hr : eqAll qs as bs = some b) :
    opV C e (.binOp .eql t x y u) H n = some (.d (.bool b), H, n) ∧ opV C e (.binOp .neq t x y u) H n = some (.d (.bool (!b)), H, n) := by
  have hE : eqlD C t (.agg as) (.agg bs) = some b := by
    unfold isStT at hs
    unfold eqlD
    cases hc : C.ty t with
    | none => rw [hc] at hs; cases hs
    | some yt =>
      rw [hc] at hs
      simp only at hs ⊢
      split at hs
      · rename_i fs hd; simp only [hd, hq]; exact hr
      · cases hs
  exact ⟨o_bin (by simp [binA, hx, hy, binD, hE]), o_bin (by simp [binA, hx, hy, binD, hE])⟩
theorem o_eqlS {t u : TypeId} {x y : Operand} {e : Operand → AV} {H : Hs} {n : Nat} {as bs : List Dat} {qs : List Nat} {b : Bool} (hs : isStT C t = true) (hq : C.eqs t = some qs) (hx : datA (e x) = some (.agg as)) (hy : datA (e y) = some (.agg bs)) (hr : eqAll qs as bs = some b) :
    opV C e (.binOp .eql t x y u) H n = some (.d (.bool b), H, n) := (o_eqS hs hq hx hy hr).1
theorem o_neqS {t u : TypeId} {x y : Operand} {e : Operand → AV} {H : Hs} {n : Nat} {as bs : List Dat} {qs : List Nat} {b : Bool} (hs : isStT C t = true) (hq : C.eqs t = some qs) (hx : datA (e x) = some (.agg as)) (hy : datA (e y) = some (.agg bs)) (hr : eqAll qs as bs = some b) :
    opV C e (.binOp .neq t x y u) H n = some (.d (.bool (!b)), H, n) := (o_eqS hs hq hx hy hr).2

theorem o_eqlB {t u : TypeId} {x y : Operand} {e : Operand → AV} {H : Hs} {n : Nat} {a b : Bool} {a1 a2 : Nat} {zs : List AV} (hs : C.ty t = some ⟨.bool, a1, a2, zs⟩) (hx : e x = .d (.bool a)) (hy : e y = .d (.bool b)) :
    opV C e (.binOp .eql t x y u) H n = some (.d (.bool (decide (a = b))), H, n) := o_bin (by simp [binA, hx, hy, datA, binD, eqlD, hs])
theorem o_neqB {t u : TypeId} {x y : Operand} {e : Operand → AV} {H : Hs} {n : Nat} {a b : Bool} {a1 a2 : Nat} {zs : List AV} (hs : C.ty t = some ⟨.bool, a1, a2, zs⟩) (hx : e x = .d (.bool a)) (hy : e y = .d (.bool b)) :
    opV C e (.binOp .neq t x y u) H n = some (.d (.bool (!decide (a = b))), H, n) := o_bin (by simp [binA, hx, hy, datA, binD, eqlD, hs])

theorem o_load_d {m : Nat} {a : Bool} {cs : List Dat} {d : Dat} {e : Operand → AV} {H : Hs} {n : Nat} (hz : szg C t = some (m, a)) (hx : e x = .d (.ptr cs)) (hr : (cutD cs 0 m).bind (mkD a) = some d) : opV C e (.load t x) H n = some (.d d, H, n) := by
  obtain ⟨h1, h2⟩ := szg_parts hz
  exact o_load (by simp [loadA, h1, h2, hx, hr])
theorem o_load_b {l : List Item} {i id off m : Nat} {a : Bool} {cs : List AV} {e : Operand → AV} {H : Hs} {n : Nat} (hz : szg C t = some (m, a)) (hH : HP H n l) (hi : l[i]? = some (.box id cs)) (hx : e x = .pt id off) (hr : (cutA cs off m).bind (mkA a) = some v) :
    opV C e (.load t x) H n = some (v, H, n) := by
  obtain ⟨h1, h2⟩ := szg_parts hz
  have h3 : H id = .box cs := hH.get hi
  exact o_load (by simp [loadA, h1, h2, hx, h3, hr])

theorem nd_get {α β : Type} {f : α → List β} : ∀ {l : List α}, (l.flatMap f).Nodup → ∀ {i j : Nat} {a b : α}, l[i]? = some a → l[j]? = some b → i ≠ j → ∀ x ∈ f a, x ∉ f b := by
  intro l
  induction l with
  | nil => intro _ i j a b h; simp at h
  | cons c l ih =>
    intro hn i j a b hi hj hne x hxa hxb
    rw [List.flatMap_cons, List.nodup_append] at hn
    cases i with
    | zero =>
      cases j with
      | zero => exact hne rfl
      | succ j =>
        simp only [List.getElem?_cons_zero, Option.some.injEq] at hi
        subst hi
        simp only [List.getElem?_cons_succ] at hj
        exact hn.2.2 x hxa x (List.mem_flatMap.2 ⟨b, List.mem_of_getElem? hj, hxb⟩) rfl
    | succ i =>
      simp only [List.getElem?_cons_succ] at hi
      cases j with
      | zero =>
        simp only [List.getElem?_cons_zero, Option.some.injEq] at hj
        subst hj
        exact hn.2.2 x hxb x (List.mem_flatMap.2 ⟨a, List.mem_of_getElem? hi, hxa⟩) rfl
      | succ j =>
        simp only [List.getElem?_cons_succ] at hj
        exact ih hn.2.1 hi hj (by omega) x hxa hxb

theorem nd_one {α β : Type} {f : α → List β} : ∀ {l : List α}, (l.flatMap f).Nodup → ∀ a ∈ l, (f a).Nodup := by
  intro l
  induction l with
  | nil => intro _ a h; simp at h
  | cons c l ih =>
    intro hn a ha
    rw [List.flatMap_cons, List.nodup_append] at hn
    rcases List.mem_cons.1 ha with rfl | ha
    · exact hn.1
    · exact ih hn.2.1 a ha

/-- some of the pieces, in another order -/
theorem HP.sel {H : Hs} {n : Nat} {L : List Item} (hH : HP H n L) (is : List Nat) (hn : is.Nodup) : HP H n (is.filterMap fun i => L[i]?) := by
  refine ⟨?_, fun it hi => ?_, fun it hi => ?_⟩
  · induction is with
    | nil => simp
    | cons i is ih =>
      obtain ⟨h1, h2⟩ := List.nodup_cons.1 hn
      cases hL : L[i]? with
      | none => simp only [List.filterMap_cons, hL]; exact ih h2
      | some a =>
        simp only [List.filterMap_cons, hL]
        rw [List.flatMap_cons, List.nodup_append]
        refine ⟨nd_one hH.nd a (List.mem_of_getElem? hL), ih h2, ?_⟩
        intro x hx y hy e
        subst e
        obtain ⟨b, hb, hxb⟩ := List.mem_flatMap.1 hy
        obtain ⟨j, hj, hb⟩ := List.mem_filterMap.1 hb
        exact nd_get hH.nd hL hb (fun e => h1 (e ▸ hj)) x hx hxb
  · obtain ⟨j, _, hb⟩ := List.mem_filterMap.1 hi
    exact hH.ok it (List.mem_of_getElem? hb)
  · obtain ⟨j, _, hb⟩ := List.mem_filterMap.1 hi
    exact hH.lt it (List.mem_of_getElem? hb)

end
end Go.Jv
