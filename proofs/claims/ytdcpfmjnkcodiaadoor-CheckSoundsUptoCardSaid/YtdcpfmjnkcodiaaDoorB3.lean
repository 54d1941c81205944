/- Steps of a walk in a region that draws its order, where homes are changed: what each operation looks at and changes is kept. -/
import Derived.Test.YtdcpfmjnkcodiaaDoorB2
import Derived.Laws.Externs
namespace Go.Jv
structure LeF (f g : Ft) : Prop where
 rd : ∀ i, f.rd i → g.rd i
 md : ∀ i, f.md i → g.md i
theorem LeF.refl (f : Ft) : LeF f f := ⟨fun _ h => h, fun _ h => h⟩
inductive LeFs : List Ft → List Ft → Prop where
 | nil : LeFs [] []
 | cons {f b : Ft} {fs bs : List Ft} (h : LeF f b) (hs : LeFs fs bs) : LeFs (f :: fs) (b :: bs)
theorem LeFs.get {fs bs : List Ft} (h : LeFs fs bs) : ∀ {i : Nat} {f : Ft}, fs[i]? = some f → ∃ b, bs[i]? = some b ∧ LeF f b := by
 induction h with
 | nil => intro i f h; simp at h
 | cons h hs ih =>
  intro i f hi
  cases i with
  | zero => simp at hi; subst hi; exact ⟨_, rfl, h⟩
  | succ i => exact ih (by simpa using hi)
theorem LeFs.pairs {fs bs : List Ft} (h : LeFs fs bs) {pz : List (Nat × Nat)} (hp : pairsOk bs pz) : pairsOk fs pz := by
 rintro p hm f g hf hg ⟨i, hc⟩
 obtain ⟨f', h1, h2⟩ := h.get hf
 obtain ⟨g', h3, h4⟩ := h.get hg
 refine hp p hm f' g' h1 h3 ⟨i, ?_⟩
 rcases hc with ⟨a, b | b⟩ | ⟨a, b⟩
 ·exact .inl ⟨h2.md i a, .inl (h4.rd i b)⟩
 ·exact .inl ⟨h2.md i a, .inr (h4.md i b)⟩
 ·exact .inr ⟨h2.rd i a, h4.md i b⟩
def EX (C : Cfg) (ops : Array Oper) (l : List Oper) (s : St) (acc : List Ft) (pz : List (Nat × Nat)) (R : St → Prop) : Prop :=
 ∃ fs bs s', runFts C ops l s = some (fs, s') ∧ LeFs fs bs ∧ pairsOk (acc.reverse ++ bs) pz ∧ R s'
section
variable {C : Cfg} {gs : Nat → AV} {hom : Hs} {nx : Nat} {ops : Array Oper} {rest : List Oper} {R : St → Prop} {Q : Ex → St → Prop} {acc : List Ft} {pz : List (Nat × Nat)}
variable {dst : Option Tmp} {ty : TypeId} {ps : String} {af : Array Edge} {g : Option (Nat × Bool)} {t u : TypeId} {x y z : Operand} {v : AV} {ρ : Type} {r : ρ}
theorem p_fts {s : St} {c : Code} {p : Way} {i : Nat} (hz : pz.isEmpty = false) (hc : sub c p = .region i ops true) (hd : drawStat ops = true) (hu : unord ops.toList = pz) (h : EX C ops ops.toList s [] pz (fun s' => con C c Q p .normal s')) : PAt C c p s Q := by
 obtain ⟨fs, bs, s', h1, hl, h2, h3⟩ := h
 rw [List.reverse_nil, List.nil_append, ← hu] at h2
 have hE : ¬ (unord ops.toList).isEmpty = true := by rw [hu, hz]; simp
 simp only [PAt, hc]
 refine ⟨(.normal, s'), ?_, h3⟩
 rw [runC]
 simp only [hd, if_true, if_neg hE, h1]
 show (guardP (pairsOk fs (unord ops.toList))).bind (fun _ => some (Ex.normal, s')) = _
 rw [guardP_t (hl.pairs h2)]; rfl
def PK (acc : List Ft) (n : Nat) (pz : List (Nat × Nat)) : Prop := acc.length = n → pairsOk acc.reverse pz
theorem pkn {n : Nat} : PK acc n [] := fun _ p hp => by simp at hp
theorem pkc {n i j : Nat} {f f' : Ft} (a b : Nat) (ha : acc[a]? = some f) (hb : acc[b]? = some f') (h1 : a + j + 1 = n) (h2 : b + i + 1 = n) (hc : ¬ clash f f') (h : PK acc n pz) : PK acc n ((j, i) :: pz) := by
 intro hn p hp x y hx hy
 have hr : ∀ (a j : Nat), a + j + 1 = n → acc.reverse[j]? = acc[a]? := fun a j e => by
  rw [List.getElem?_reverse (by omega)]
  congr 1; omega
 rcases List.mem_cons.1 hp with rfl | hp
 ·simp only at hx hy
  rw [hr a j h1, ha] at hx
  rw [hr b i h2, hb] at hy
  cases hx; cases hy; exact hc
 ·exact h hn p hp x y hx hy
theorem x_nil {s : St} {n : Nat} (hn : acc.length = n) (hp : PK acc n pz) (h : R s) : EX C ops [] s acc pz R := ⟨[], [], s, by rw [runFts], .nil, by rw [List.append_nil]; exact hp hn, h⟩
theorem x_opF {o : Oper} {v : AV} {H1 : Hs} {n1 : Nat} (f : Ft) (hw : wantedA ops gs o = some true) (ho : opF C (ev C ⟨gs, hom, nx⟩) o.op hom nx = some (v, H1, n1))
  (hf : LeF (footA C hom nx n1 (ev C ⟨gs, hom, nx⟩) o.op) f) (h : EX C ops rest ⟨putR gs o.dst v, H1, n1⟩ (f :: acc) pz R) : EX C ops (o :: rest) ⟨gs, hom, nx⟩ acc pz R := by
 obtain ⟨fs, bs, s', h1, hl, h2, h3⟩ := h
 refine ⟨_ :: fs, f :: bs, s', ?_, .cons hf hl, by simpa using h2, h3⟩
 rw [runFts, hw]; simp only [ho]; simp [h1]
theorem x_op {o : Oper} {v : AV} {H1 : Hs} {n1 : Nat} (f : Ft) (hw : wantedA ops gs o = some true) (ho : opV C (ev C ⟨gs, hom, nx⟩) o.op hom nx = some (v, H1, n1))
  (hf : footA C hom nx n1 (ev C ⟨gs, hom, nx⟩) o.op = f ∧ isCallV o.op = false) (h : EX C ops rest ⟨putR gs o.dst v, H1, n1⟩ (f :: acc) pz R) : EX C ops (o :: rest) ⟨gs, hom, nx⟩ acc pz R :=
 x_opF f hw ((opF_nc hf.2).trans ho) (hf.1 ▸ .refl _) h
theorem x_opt {β : Type} {m : Option β} {k : β → Option ρ} {o : Oper} {fv : β → AV} (f : Ft) (hm : (m >>= k) = some r) (hw : wantedA ops gs o = some true)
  (ho : ∀ y, m = some y → opV C (ev C ⟨gs, hom, nx⟩) o.op hom nx = some (fv y, hom, nx)) (hf : footA C hom nx nx (ev C ⟨gs, hom, nx⟩) o.op = f ∧ isCallV o.op = false)
  (h : ∀ y, k y = some r → EX C ops rest ⟨putR gs o.dst (fv y), hom, nx⟩ (f :: acc) pz R) : EX C ops (o :: rest) ⟨gs, hom, nx⟩ acc pz R := by
 obtain ⟨y, h1, h2⟩ := Option.bind_eq_some_iff.1 hm
 exact x_op f hw (ho y h1) hf (h y h2)
theorem o_idx {α : Type} {enc : α → Dat} {l : List α} {i : Int} {kd : IntKind} {el : TypeId} {m : Nat} {a : Bool}
  (he : elemT C t = some el) (hz : szg C el = some (m, a)) (hc : ∀ v, (enc v).cells.length = m) (hx : ev C ⟨gs, hom, nx⟩ x = .d (.lst (l.map enc))) (hy : ev C ⟨gs, hom, nx⟩ y = .d (.int kd i)) :
  ∀ v, idx l i = some v → opV C (ev C ⟨gs, hom, nx⟩) (.indexAddr t x y) hom nx = some (.d (.ptr (enc v).cells), hom, nx) := by
 intro v hv
 obtain ⟨h0, h1⟩ := get_of_idx hv
 refine o_iaddr ?_
 simp only [indexAddrA, hx, hy, intOfA, he]
 rw [if_neg (by omega)]
 simp [h1, (szg_parts hz).1, hc]
theorem o_len_d {α : Type} {enc : α → Dat} {l : List α} {el : TypeId} (he : elemT C t = some el) (hx : ev C ⟨gs, hom, nx⟩ x = .d (.lst (l.map enc))) :
  opV C (ev C ⟨gs, hom, nx⟩) (.call ⟨.builtin .len, #[x], #[t]⟩) hom nx = some (.d (.int .i64 (l.length : Int)), hom, nx) := by
 obtain ⟨y, h1, h2⟩ := elemT_ty he
 exact o_len (by simp [lenA, h1, h2, hx])
def Off (L : List Item) (ids : List Nat) (nx : Nat) : Prop := (∀ it ∈ L, ∀ i ∈ it.ids, i ∉ ids ∧ i < nx) ∧ ∀ i ∈ ids, i < nx
theorem x_alloc {l : List Item} {zs : List AV} (hw : wantedA ops gs ⟨dst, .alloc t, ty, ps, af, g⟩ = some true) (hy : (C.ty t).map (·.zero) = some zs) (hH : HP hom nx l)
  (h : ∀ id H' n', HP H' n' (.box id zs :: l) → Off l [] id → nx ≤ id ∧ n' = id + 1 → EX C ops rest ⟨putR gs dst (.pt id 0), H', n'⟩ (.of [] [id] :: acc) pz R) : EX C ops (⟨dst, .alloc t, ty, ps, af, g⟩ :: rest) ⟨gs, hom, nx⟩ acc pz R := by
 obtain ⟨yt, h1, rfl⟩ := Option.map_eq_some_iff.1 hy
 exact x_op _ hw (o_alloc h1) ⟨rfl, rfl⟩ (h nx _ (nx + 1) (hH.new rfl (by simp [Item.ok, upd])) ⟨fun it hi i hm => ⟨by simp, hH.lt it hi i hm⟩, by simp⟩ ⟨Nat.le_refl _, rfl⟩)
theorem x_append {α : Type} {enc : α → Dat} {l new : List α} {B : Nat} {k : List α → Option ρ} {el : TypeId} {m : Nat} {a : Bool} {L : List Item} {j : Nat} {w : AV} (v2 : AV) (hm : ((app B l new) >>= k) = some r)
  (hw : wantedA ops gs ⟨dst, .call ⟨.builtin .append, #[x, y], #[t, t]⟩, ty, ps, af, g⟩ = some true) (he : elemT C t = some el) (hz : szg C el = some (m, a)) (hB : (C.ty el).map (·.bytes) = some B) (h0 : 0 < m ∧ 0 < B) (hc : ∀ v, (enc v).cells.length = m)
  (hH : HP hom nx L) (hj : L[j]? = some (.own w ⟨el, m⟩ (l.map enc))) (hx : ev C ⟨gs, hom, nx⟩ x = w) (hv2 : ev C ⟨gs, hom, nx⟩ y = v2) (hy : Shows hom v2 (new.map enc))
  (h : ∀ l' w' id H' n', k l' = some r → HP H' n' (.own w' ⟨el, m⟩ (l'.map enc) :: L.eraseIdx j) → Off (L.eraseIdx j) (idOf w) id → nx ≤ id ∧ n' = id + 1 → idOf w' = [id] → EX C ops rest ⟨putR gs dst w', H', n'⟩ (.of (idOf w ++ idOf v2) (id :: idOf w) :: acc) pz R) :
  EX C ops (⟨dst, .call ⟨.builtin .append, #[x, y], #[t, t]⟩, ty, ps, af, g⟩ :: rest) ⟨gs, hom, nx⟩ acc pz R := by
 obtain ⟨l', h1, h2⟩ := Option.bind_eq_some_iff.1 hm
 have hoff : Off (L.eraseIdx j) (idOf w) nx := by
  refine ⟨fun it hi i hmem => ⟨fun hc' => ?_, hH.lt it ((List.eraseIdx_sublist _ _).subset hi) i hmem⟩, fun i hi => hH.lt _ (List.mem_of_getElem? hj) i (by simpa [Item.ids] using hi)⟩
  exact (hH.pick j hj).apart (a := .own w ⟨el, m⟩ (l.map enc)) (by simpa [Item.live] using hc') it hi hmem
 unfold app at h1
 split at h1
 ·rename_i hb
  cases h1
  obtain ⟨H1, h3, h4⟩ := base_own hH hj
  obtain ⟨ye, hye, h5⟩ := Option.map_eq_some_iff.1 hB
  have h6 : ye.size = m := by have := (szg_parts hz).1; simpa [sizeT, hye] using this
  have hp : HP (upd H1 nx (.own ⟨el, m⟩ ((l ++ new).map enc))) (nx + 1) (.own (.sl nx 0 (l ++ new).length) ⟨el, m⟩ ((l ++ new).map enc) :: L.eraseIdx j) := by
   refine h4.new (by simp [Item.ids, idOf]) ?_
   exact .inr ⟨nx, [], by simp, by simp [upd]⟩
  refine x_op _ hw (o_append (r := (.sl nx 0 (l ++ new).length, upd H1 nx (.own ⟨el, m⟩ ((l ++ new).map enc)), nx + 1)) ?_) ?_ (h _ _ nx _ _ h2 hp hoff ⟨Nat.le_refl _, rfl⟩ rfl)
  ·simp only [Shows] at hy
   simp only [appendA, if_true, he, hye, h6, hx, h3, hv2, hy, h5]
   rw [if_pos]
   ·simp
   ·refine ⟨?_, h0.1, h0.2, by simpa using hb⟩
    simp [hc]
  ·exact ⟨by simp [footA, hx, hv2], rfl⟩
 ·cases h1
theorem x_bslice {α : Type} {enc : α → Dat} {xs : List α} (vs : List AV) {el m : Nat} {a : Bool} {zs : List AV} {parts : Array (Nat × Operand)} {L : List Item} (hw : wantedA ops gs ⟨dst, .buildSlice t xs.length parts, ty, ps, af, g⟩ = some true)
  (he : elemT C t = some el) (hz : szg C el = some (m, a)) (hy : (C.ty el).map (·.zero) = some zs) (h0 : 0 < m ∧ xs.length * m ≤ 16777216) (hZ : ∃ z, zeroD C el = some z ∧ z.cells.length = m ∧ (z.cells.map AV.d).all okC = true) (hc : ∀ v, (enc v).cells.length = m) (hk : ∀ v, ((enc v).cells.map AV.d).all okC = true)
  (h1 : (parts.toList.map fun p => (p.1, ev C ⟨gs, hom, nx⟩ p.2)) = (List.range' 0 vs.length).zip vs) (h2 : List.map (fun v => frz 4 hom v) vs = xs.map fun v => some (enc v, hom))
  (hf : footA C hom nx (nx + 1) (ev C ⟨gs, hom, nx⟩) (.buildSlice t xs.length parts) = .of [] [nx])
  (hH : HP hom nx L) (h : ∀ w id H' n', HP H' n' (.own w ⟨el, m⟩ (xs.map enc) :: L) → Off L [] id → nx ≤ id ∧ n' = id + 1 → idOf w = [id] → EX C ops rest ⟨putR gs dst w, H', n'⟩ (.of [] [id] :: acc) pz R) : EX C ops (⟨dst, .buildSlice t xs.length parts, ty, ps, af, g⟩ :: rest) ⟨gs, hom, nx⟩ acc pz R := by
 have hp' : HP (upd hom nx (.own ⟨el, m⟩ (xs.map enc))) (nx + 1) (.own (.sl nx 0 xs.length) ⟨el, m⟩ (xs.map enc) :: L) :=
  hH.new (by simp [Item.ids, idOf]) (.inr ⟨nx, [], by simp, by simp [upd]⟩)
 obtain ⟨zd, h3, h4, h5⟩ := hZ
 obtain ⟨yt, h6, rfl⟩ := Option.map_eq_some_iff.1 hy
 have h7 : yt.size = m := by have := (szg_parts hz).1; simpa [sizeT, h6] using this
 have hl : vs.length = xs.length := by simpa using congrArg List.length h2
 have hpd : partsD m hom (List.replicate xs.length zd) ((List.range' 0 vs.length).zip vs) = some (xs.map enc, hom) := by
  have := partsD_known (sz := m) (H := hom) vs (xs.map enc) [] 0 (List.replicate xs.length zd) rfl (by simp [hl]) (by simp [hl]) (fun i v x hv hx => by
   have e1 : (List.map (fun v => frz 4 hom v) vs)[i]? = (xs.map fun v => some (enc v, hom))[i]? := by rw [h2]
   rw [List.getElem?_map, hv, List.getElem?_map] at e1
   rw [List.getElem?_map] at hx
   obtain ⟨e, he', rfl⟩ := Option.map_eq_some_iff.1 hx
   rw [he'] at e1
   exact ⟨Option.some.inj e1, hc e, hk e⟩)
  simpa using this
 refine x_op (v := .sl nx 0 xs.length) (H1 := upd hom nx (.own ⟨el, m⟩ (xs.map enc))) (n1 := nx + 1) _ hw ?_ ⟨hf, rfl⟩ (h _ nx _ _ hp' ⟨fun it hi i hm => ⟨by simp, hH.lt it hi i hm⟩, by simp⟩ ⟨Nat.le_refl _, rfl⟩ rfl)
 rw [opV_act (fun _ _ _ h => by cases h)]
 simp only [act, he, h3, h6, h7]
 rw [if_pos ⟨h4, h5, h0.1, h0.2⟩]
 rw [show (parts.toList.map fun (x : Nat × Operand) => match x with | (i, x) => (i, ev C ⟨gs, hom, nx⟩ x)) = parts.toList.map fun p => (p.1, ev C ⟨gs, hom, nx⟩ p.2) from rfl, h1, hpd]
theorem nc_rr {a b : List Nat} : ¬ clash (.of a []) (.of b []) := by rintro ⟨i, h⟩; simp [Ft.of] at h
theorem nc_no {f : Ft} : ¬ clash noFt f := by rintro ⟨i, h⟩; simp [noFt, Ft.of] at h
theorem nc_on {f : Ft} : ¬ clash f noFt := by rintro ⟨i, h⟩; simp [noFt, Ft.of] at h
theorem nc_of {a b c d : List Nat} (h1 : ∀ x ∈ b, x ∉ c) (h2 : ∀ x ∈ b, x ∉ d) (h3 : ∀ x ∈ a, x ∉ d) : ¬ clash (.of a b) (.of c d) := by
 rintro ⟨i, ⟨h, k | k⟩ | ⟨h, k⟩⟩
 ·exact h1 i h k
 ·exact h2 i h k
 ·exact h3 i h k
def rawFt (ids : List Nat) (lo hi : Nat) : Ft := ⟨fun i => i ∈ ids, fun i => i ∈ ids ∨ (lo ≤ i ∧ i < hi)⟩
theorem nc_ra {ids c d : List Nat} {lo hi : Nat} (h1 : ∀ x ∈ ids, x ∉ c ∧ x ∉ d) (h2 : ∀ x ∈ c, ¬ (lo ≤ x ∧ x < hi)) (h3 : ∀ x ∈ d, ¬ (lo ≤ x ∧ x < hi)) : ¬ clash (rawFt ids lo hi) (.of c d) := by
 rintro ⟨i, ⟨h | h, k | k⟩ | ⟨h, k⟩⟩
 ·exact (h1 i h).1 k
 ·exact (h1 i h).2 k
 ·exact h2 i k h
 ·exact h3 i k h
 ·exact (h1 i h).2 k
theorem nc_ar {ids c d : List Nat} {lo hi : Nat} (h1 : ∀ x ∈ ids, x ∉ c ∧ x ∉ d) (h2 : ∀ x ∈ c, ¬ (lo ≤ x ∧ x < hi)) (h3 : ∀ x ∈ d, ¬ (lo ≤ x ∧ x < hi)) : ¬ clash (.of c d) (rawFt ids lo hi) := by
 rintro ⟨i, ⟨h, k | k | k⟩ | ⟨h, k | k⟩⟩
 ·exact (h1 i k).2 h
 ·exact (h1 i k).2 h
 ·exact h3 i h k
 ·exact (h1 i k).1 h
 ·exact h2 i h k
theorem nc_arb {b lo hi : Nat} {ids : List Nat} (h : b ∉ ids ∧ b < lo) : ¬ clash (.of [b] []) (rawFt ids lo hi) :=
 nc_ar (fun x hx => ⟨fun hc => h.1 (by simp at hc; exact hc ▸ hx), by simp⟩) (fun x hx hc => by simp at hx; subst hx; omega) (fun x hx => by simp at hx)
theorem nc_rab {b lo hi : Nat} {ids : List Nat} (h : b ∉ ids ∧ b < lo) : ¬ clash (rawFt ids lo hi) (.of [b] []) :=
 nc_ra (fun x hx => ⟨fun hc => h.1 (by simp at hc; exact hc ▸ hx), by simp⟩) (fun x hx hc => by simp at hx; subst hx; omega) (fun x hx => by simp at hx)
theorem o_buildS {l : List (Nat × Nat)} {zs : List AV} {parts : Array (Nat × Operand)} {cs : List AV} (hz : (C.ty t).map (·.zero) = some zs) (hp : places C t = some l)
  (hf : fillA okCells (fun i => l[i]?) zs (parts.toList.map fun p => (p.1, ev C ⟨gs, hom, nx⟩ p.2)) = some cs) : opV C (ev C ⟨gs, hom, nx⟩) (.build t parts) hom nx = some (.agg cs, hom, nx) := by
 obtain ⟨yt, h1, rfl⟩ := Option.map_eq_some_iff.1 hz
 exact o_build (by rw [buildA_struct hp h1, hf]; rfl)
theorem Off.box {L : List Item} {ids : List Nat} {n k b : Nat} {cs : List AV} (h : Off L ids n) (hk : L[k]? = some (.box b cs)) : b ∉ ids ∧ b < n := h.1 _ (List.mem_of_getElem? hk) b (by simp [Item.ids])
theorem Off.own {L : List Item} {ids : List Nat} {n k : Nat} {w : AV} {z : Row} {xs : List Dat} (h : Off L ids n) (hk : L[k]? = some (.own w z xs)) : ∀ i ∈ idOf w, i ∉ ids ∧ i < n := fun i hi => h.1 _ (List.mem_of_getElem? hk) i (by simpa [Item.ids] using hi)
theorem Off.imm {L : List Item} {ids : List Nat} {n k : Nat} {w : AV} {z : Row} {xs : List Dat} (h : Off L ids n) (hk : L[k]? = some (.imm w z xs)) : ∀ i ∈ idOf w, i ∉ ids ∧ i < n := fun i hi => h.1 _ (List.mem_of_getElem? hk) i (by simpa [Item.ids] using hi)
theorem o_load_g {α : Type} {enc : α → Dat} {l : List α} {gl n : Nat} (hz : szg C t = some (n, true)) (hg : C.glob gl = some (l.map enc)) (hl : l.length = n) : opV C (ev C ⟨gs, hom, nx⟩) (.load t (.global gl)) hom nx = some (.d (.agg (l.map enc)), hom, nx) := by
 have hev : ev C ⟨gs, hom, nx⟩ (.global gl) = .d (.ptr (l.map enc)) := by simp [ev, hg]
 refine o_load_d hz hev ?_
 simp only [cutD, List.length_map, hl, Nat.zero_add, Nat.le_refl, if_true, Option.bind_some, List.drop_zero, mkD]
 rw [List.take_of_length_le (by simp [hl])]
theorem w_load_g {α : Type} {enc : α → Dat} {l : List α} {gl n : Nat} {q : Bool} (hw : wantedA ops gs ⟨dst, .load t (.global gl), ty, ps, af, g⟩ = some true) (hz : szg C t = some (n, true)) (hg : C.glob gl = some (l.map enc)) (hl : l.length = n)
  (h : EW q C ops rest ⟨putR gs dst (.d (.agg (l.map enc))), hom, nx⟩ R) : EW q C ops (⟨dst, .load t (.global gl), ty, ps, af, g⟩ :: rest) ⟨gs, hom, nx⟩ R :=
 w_op hw (o_load_g hz hg hl) (fun _ => ⟨rfl, rfl⟩) h
theorem w_index_l {α : Type} {enc : α → Dat} {l : List α} {n : Nat} {q : Bool} {el : TypeId} {i : Int} {kd : IntKind} {k : α → Option ρ} (hm : ((idx l i) >>= k) = some r) (hw : wantedA ops gs ⟨dst, .index t x y, ty, ps, af, g⟩ = some true) (ha : arrT C t = some (n, el)) (hz : szg C el = some (1, false))
  (hl : l.length = n) (hx : ev C ⟨gs, hom, nx⟩ x = .d (.agg (l.map enc))) (hy : ev C ⟨gs, hom, nx⟩ y = .d (.int kd i))
  (h : ∀ v, k v = some r → EW q C ops rest ⟨putR gs dst (.d (enc v)), hom, nx⟩ R) : EW q C ops (⟨dst, .index t x y, ty, ps, af, g⟩ :: rest) ⟨gs, hom, nx⟩ R := by
 obtain ⟨v, h1, h2⟩ := Option.bind_eq_some_iff.1 hm
 obtain ⟨h0, h3⟩ := get_of_idx h1
 have hlt : i.toNat < l.length := (List.getElem?_eq_some_iff.1 h3).1
 refine w_index (v := .d (enc v)) hw ha hz (fun b hb => by rw [hx] at hb; cases hb) hy ⟨h0, by omega⟩ ?_ (h v h2)
 rw [hx]
 have e : ((l.map enc).drop i.toNat).take 1 = [enc v] := by
  rw [List.drop_eq_getElem_cons (by simpa using hlt)]
  have : (l.map enc)[i.toNat]? = some (enc v) := by simp [h3]
  rw [List.getElem?_eq_getElem (by simpa using hlt)] at this
  rw [Option.some.inj this]; rfl
 simp only [partA, cutD, Nat.mul_one, List.length_map]
 rw [if_pos (by omega), e]
 rfl
theorem x_store {l : List Item} {i id off m : Nat} {a : Bool} {cs new : List AV} (cs' : List AV) (hw : wantedA ops gs ⟨dst, .store t x y, ty, ps, af, g⟩ = some true) (hz : szg C t = some (m, a)) (hH : HP hom nx l) (hi : l[i]? = some (.box id cs))
  (hx : ev C ⟨gs, hom, nx⟩ x = .pt id off) (hc : (ev C ⟨gs, hom, nx⟩ y).cells = new) (hl : new.length = m) (ha : new.all okC = true) (ho : off + m ≤ cs.length) (hn : putA cs off new = cs')
  (h : ∀ H', HP H' nx (l.set i (.box id cs')) → EX C ops rest ⟨putR gs dst .undef, H', nx⟩ (.of [id] [id] :: acc) pz R) : EX C ops (⟨dst, .store t x y, ty, ps, af, g⟩ :: rest) ⟨gs, hom, nx⟩ acc pz R := by
 subst hc hn
 obtain ⟨h1, h2⟩ := szg_parts hz
 have h3 : hom id = .box cs := hH.get hi
 have hp : HP (upd hom id (.box (putA cs off (ev C ⟨gs, hom, nx⟩ y).cells))) nx (l.set i (.box id (putA cs off (ev C ⟨gs, hom, nx⟩ y).cells))) :=
  ((hH.pick i hi).write (a := .box id cs) (by simp [Item.live]) rfl (by simp [Item.ok, upd])).perm (set_perm _ _ _ _ hi)
 refine x_op _ hw (o_store (H1 := upd hom id (.box (putA cs off (ev C ⟨gs, hom, nx⟩ y).cells))) ?_) ?_ (h _ hp)
 ·simp only [storeA, h1, hx, h3]
  rw [if_pos ⟨hl, ha, ho⟩]
 ·exact ⟨by simp [footA, hx, idOf], rfl⟩
theorem okCells_agg {cs : List AV} (h : cs.all okC = true) : okCells (.agg cs) = some cs := by simp only [okCells, AV.cells, h, if_true]
theorem okCells_own {w : AV} (h : okC w = true ∧ w.cells = [w]) : okCells w = some [w] := by simp [okCells, h.1, h.2]
end
end Go.Jv
namespace Go.Jv
theorem callR_dead (C : Cfg) : ∀ (f : FuncId) (vs : List AV) (H : Hs) (nx : Nat) (r : List AV × Hs × Nat), callR C f vs H nx = some r → nx ≤ r.2.2 ∧ ∀ id, id < nx → H id = .dead → r.2.1 id = .dead := by
 have key := callD.mutual_partial_correctness C (fun _ _ _ => True) (fun _ s r => Fwd s r.2) (fun _ _ s r => Fwd s r.2)
  (fun _ _ H nx r => nx ≤ r.2.2 ∧ ∀ id, id < nx → H id = .dead → r.2.1 id = .dead) (fun _ _ H nx r => nx ≤ r.2.2 ∧ ∀ id, id < nx → H id = .dead → r.2.1 id = .dead) (fun _ _ s r => Fwd s r)
  (fun _ _ H nx r => nx ≤ r.2.2 ∧ ∀ id, id < nx → H id = .dead → r.2.1 id = .dead)
  (fun _ _ _ _ _ _ => trivial)
  (fun runC runFts runOps hC hF hO c s r h => by
   split at h
   ·cases h; exact .refl _
   ·cases h; exact .refl _
   ·cases h; exact .refl _
   ·split at h
    ·split at h
     ·split at h
      ·obtain ⟨s', h1, h2⟩ := Option.bind_eq_some_iff.1 h
       cases h2; exact hO _ _ _ _ h1
      ·obtain ⟨⟨fs, s'⟩, h1, h2⟩ := Option.bind_eq_some_iff.1 h
       obtain ⟨_, _, h2⟩ := Option.bind_eq_some_iff.1 h2
       cases h2; exact hF _ _ _ _ h1
     ·cases h
    ·obtain ⟨s', h1, h2⟩ := Option.bind_eq_some_iff.1 h
     cases h2; exact hO _ _ _ _ h1
   ·obtain ⟨⟨e, s1⟩, h1, h2⟩ := Option.bind_eq_some_iff.1 h
    have := hC _ _ _ h1
    simp only at h2
    split at h2
    ·exact this.trans (hC _ _ _ h2)
    ·cases h2; exact this
   ·split at h
    ·exact hC _ _ _ h
    ·exact hC _ _ _ h
    ·cases h
   ·obtain ⟨⟨e, s1⟩, h1, h2⟩ := Option.bind_eq_some_iff.1 h
    have := hC _ _ _ h1
    simp only at h2
    split at h2
    ·split at h2 <;> (cases h2; exact this)
    ·cases h2; exact this
   ·obtain ⟨⟨e, s1⟩, h1, h2⟩ := Option.bind_eq_some_iff.1 h
    have := hC _ _ _ h1
    simp only at h2
    split at h2
    ·exact this.trans (hC _ _ _ h2)
    ·cases h2; exact this
   ·cases h)
  (fun runFts opF hF hV ops l s r h => by
   split at h
   ·cases h; exact .refl _
   ·split at h
    ·cases h
    ·obtain ⟨⟨fs, s'⟩, h1, h2⟩ := Option.bind_eq_some_iff.1 h
     cases h2
     have := hF _ _ _ _ h1
     exact ⟨this.next, this.dead⟩
    ·obtain ⟨⟨v, H1, n1⟩, h1, h2⟩ := Option.bind_eq_some_iff.1 h
     obtain ⟨⟨fs, s'⟩, h3, h4⟩ := Option.bind_eq_some_iff.1 h2
     cases h4
     obtain ⟨a, b⟩ := hV _ _ _ _ _ h1
     have h5 := hF _ _ _ _ h3
     exact ⟨Nat.le_trans a h5.next, fun id hi hd => h5.dead id (Nat.lt_of_lt_of_le hi a) (b id hi hd)⟩)
  (fun callD callR _ hR e o H nx r h => by
   split at h
   ·split at h
    ·cases h
    ·split at h
     ·obtain ⟨_, hg, h⟩ := Option.bind_eq_some_iff.1 h
      have hlt := guardP_s hg
      obtain ⟨⟨vs, H1, n1⟩, h1, h2⟩ := Option.bind_eq_some_iff.1 h
      cases h2
      obtain ⟨a, b⟩ := hR _ _ _ _ _ h1
      refine ⟨a, fun id hi hd => ?_⟩
      show merge _ nx n1 H H1 id = .dead
      unfold merge
      split
      ·refine b id hi ?_
       unfold restr; split
       ·exact hd
       ·rfl
      ·exact hd
     ·split at h
      ·cases h
      ·rename_i hf
       obtain ⟨ds, h1, h2⟩ := Option.bind_eq_some_iff.1 h
       cases h2
       exact ⟨Nat.le_refl _, fun id _ hd => frzL_dead 4 _ hf id hd⟩
     ·split at h
      ·cases h
      ·obtain ⟨ds, h1, h2⟩ := Option.bind_eq_some_iff.1 h
       split at h2 <;> cases h2
       exact ⟨Nat.le_refl _, fun id _ hd => hd⟩
   ·obtain ⟨x, H1, n1⟩ := r
    exact ⟨act_next h, act_dead h⟩)
  (fun runC hC f vs H nx r h => by
   split at h
   ·cases h
   ·split at h
    ·cases h
    ·obtain ⟨⟨e, s⟩, h1, h2⟩ := Option.bind_eq_some_iff.1 h
     have := hC _ _ _ h1
     simp only at h2
     split at h2
     ·cases h2
     ·obtain ⟨rs, _, he⟩ := Option.map_eq_some_iff.1 h2
      cases he
      exact ⟨this.next, this.dead⟩)
  (fun runOps opV hO hV ops l s r h => by
   split at h
   ·cases h; exact .refl _
   ·split at h
    ·cases h
    ·have := hO _ _ _ _ h
     exact ⟨this.next, this.dead⟩
    ·obtain ⟨⟨v, H1, n1⟩, h1, h2⟩ := Option.bind_eq_some_iff.1 h
     obtain ⟨a, b⟩ := hV _ _ _ _ _ h1
     have h5 := hO _ _ _ _ h2
     exact ⟨Nat.le_trans a h5.next, fun id hi hd => h5.dead id (Nat.lt_of_lt_of_le hi a) (b id hi hd)⟩)
  (fun callD callR _ hR e o H nx r h => by
   split at h
   ·split at h
    ·cases h
    ·split at h
     ·obtain ⟨⟨vs, H1, n1⟩, h1, h2⟩ := Option.bind_eq_some_iff.1 h
      cases h2
      exact hR _ _ _ _ _ h1
     ·split at h
      ·cases h
      ·rename_i hf
       obtain ⟨ds, h1, h2⟩ := Option.bind_eq_some_iff.1 h
       cases h2
       exact ⟨Nat.le_refl _, fun id _ hd => frzL_dead 4 _ hf id hd⟩
     ·split at h
      ·cases h
      ·obtain ⟨ds, h1, h2⟩ := Option.bind_eq_some_iff.1 h
       split at h2 <;> cases h2
       exact ⟨Nat.le_refl _, fun id _ hd => hd⟩
   ·obtain ⟨x, H1, n1⟩ := r
    exact ⟨act_next h, act_dead h⟩)
 exact key.2.2.2.2.1
inductive MC (A : List Item) : AV → Prop where
 | d (x : Dat) : MC A (.d x)
 | nil : MC A .nil
 | undef : MC A .undef
 | own {j : Nat} {w : AV} {z : Row} {xs : List Dat} (h : A[j]? = some (.own w z xs)) : MC A w
 | imm {j : Nat} {w : AV} {z : Row} {xs : List Dat} (h : A[j]? = some (.imm w z xs)) : MC A w
 | pt {j b off : Nat} {cs : List AV} (h : A[j]? = some (.box b cs)) : MC A (.pt b off)
 | mp {j b : Nat} {es : List (Dat × Dat)} (h : A[j]? = some (.mp b es)) : MC A (.mp b)
 | agg {cs : List AV} (h : ∀ c ∈ cs, MC A c) : MC A (.agg cs)
 | fn {f : FuncId} {cs : List AV} (h : ∀ c ∈ cs, MC A c) : MC A (.fn f cs)
section
variable {A : List Item} {H : Hs} {n : Nat} {L : List Item} {vs : List AV}
theorem mcn : ∀ c ∈ ([] : List AV), MC A c := fun c h => by simp at h
theorem mcc {c : AV} {cs : List AV} (h : MC A c) (k : ∀ c ∈ cs, MC A c) : ∀ x ∈ c :: cs, MC A x := fun x hx => by
 rcases List.mem_cons.1 hx with rfl | hx
 ·exact h
 ·exact k x hx
def CB (A l : List Item) : Prop := ∀ b cs, Item.box b cs ∈ l → ∀ c ∈ cs, MC A c
theorem cbn : CB A [] := fun b cs h => by simp at h
theorem cbb {b : Nat} {cs : List AV} {l : List Item} (h : ∀ c ∈ cs, MC A c) (k : CB A l) : CB A (.box b cs :: l) := fun b' cs' hm => by
 rcases List.mem_cons.1 hm with e | hm
 ·cases e; exact h
 ·exact k b' cs' hm
theorem cbo {w : AV} {z : Row} {xs : List Dat} {l : List Item} (k : CB A l) : CB A (.own w z xs :: l) := fun b' cs' hm => by
 rcases List.mem_cons.1 hm with e | hm
 ·cases e
 ·exact k b' cs' hm
theorem ment_idOf {i : Nat} {w : AV} (h : i ∈ idOf w) : Ment i w := by
 cases w with
 | sl id lo hi => simp [idOf] at h; subst h; exact .sl ..
 | pt id off => simp [idOf] at h; subst h; exact .pt ..
 | pe id a b => simp [idOf] at h; subst h; exact .pe ..
 | mp id => simp [idOf] at h; subst h; exact .mp
 | _ => simp [idOf] at h
theorem MC.ids (hP : ∀ it ∈ A, it.ok H) {v : AV} (h : MC A v) : ∀ i, Ment i v → ∃ it ∈ A, i ∈ it.ids := by
 induction h with
 | d x => intro i hm; cases hm
 | nil => intro i hm; cases hm
 | undef => intro i hm; cases hm
 | own h =>
  intro i hm
  have hi := List.mem_of_getElem? h
  refine ⟨_, hi, ?_⟩
  rcases hP _ hi with ⟨rfl, _⟩ | ⟨k, ys, rfl, _⟩
  ·cases hm
  ·cases hm; simp [Item.ids, idOf]
 | imm h =>
  intro i hm
  have hi := List.mem_of_getElem? h
  refine ⟨_, hi, ?_⟩
  rcases hP _ hi with ⟨rfl, _⟩ | ⟨k, lo, zs, rfl, _⟩
  ·cases hm
  ·cases hm; simp [Item.ids, idOf]
 | pt h => intro i hm; cases hm; exact ⟨_, List.mem_of_getElem? h, by simp [Item.ids]⟩
 | mp h => intro i hm; cases hm; exact ⟨_, List.mem_of_getElem? h, by simp [Item.ids]⟩
 | agg h ih => intro i hm; cases hm with | agg _ c hc hm => exact ih c hc i hm
 | fn h ih => intro i hm; cases hm with | fn _ _ c hc hm => exact ih c hc i hm
def LeadsIt (H : Hs) (vs : List AV) (it : Item) : Prop := ∀ i ∈ it.ids, Leads H vs i
def MentIt (it : Item) (v : AV) : Prop := ∀ i ∈ it.ids, Ment i v
theorem mi_own {w : AV} {z : Row} {xs : List Dat} : MentIt (.own w z xs) w := fun _ h => ment_idOf h
theorem mi_pt {b off : Nat} {cs : List AV} : MentIt (.box b cs) (.pt b off) := fun i h => by simp [Item.ids] at h; subst h; exact .pt off
theorem li_arg {it : Item} (q : Nat) {v : AV} (h : vs[q]? = some v) (k : MentIt it v) : LeadsIt H vs it := fun i hi => .arg v (List.mem_of_getElem? h) (k i hi)
theorem li_box {it : Item} {b : Nat} {cs : List AV} (j : Nat) (hP : HP H n L) (hj : L[j]? = some (.box b cs)) (hb : LeadsIt H vs (.box b cs)) (q : Nat) {c : AV} (h : cs[q]? = some c) (k : MentIt it c) : LeadsIt H vs it := fun i hi =>
 .box b cs c (hb b (by simp [Item.ids])) (hP.get hj) (List.mem_of_getElem? h) (k i hi)
theorem li_nil {z : Row} {xs : List Dat} : LeadsIt H vs (.own .nil z xs) := fun i hi => by simp [Item.ids, idOf] at hi
theorem rcn : ∀ it ∈ ([] : List Item), LeadsIt H vs it := fun c h => by simp at h
theorem rcc {it : Item} {l : List Item} (h : LeadsIt H vs it) (k : ∀ it ∈ l, LeadsIt H vs it) : ∀ x ∈ it :: l, LeadsIt H vs x := fun x hx => by
 rcases List.mem_cons.1 hx with rfl | hx
 ·exact h
 ·exact k x hx
theorem Item.ok_eq {it : Item} {H' : Hs} (h : it.ok H) (hi : ∀ i ∈ it.ids, H' i = H i) : it.ok H' := by
 cases it with
 | own v z xs =>
  rcases h with h1 | ⟨k, ys, rfl, h2⟩
  ·exact .inl h1
  ·exact .inr ⟨k, ys, rfl, (hi k (by simp [Item.ids, idOf])).trans h2⟩
 | box b cs => exact (hi b (by simp [Item.ids])).trans h
 | mp b es => exact (hi b (by simp [Item.ids])).trans h
 | imm v z xs =>
  rcases h with h1 | ⟨k, lo, zs, rfl, h2, h3⟩
  ·exact .inl h1
  ·exact .inr ⟨k, lo, zs, rfl, (hi k (by simp [Item.ids, idOf])).trans h2, h3⟩
theorem Item.ok_alive {it : Item} (h : it.ok H) : ∀ i ∈ it.ids, H i ≠ .dead := by
 intro i hi hd
 cases it with
 | own v z xs =>
  rcases h with ⟨rfl, _⟩ | ⟨k, ys, rfl, h2⟩
  ·simp [Item.ids, idOf] at hi
  ·simp [Item.ids, idOf] at hi; subst hi; rw [hd] at h2; cases h2
 | box b cs =>
  simp [Item.ids] at hi; subst hi
  rw [Item.ok, hd] at h; cases h
 | mp b es =>
  simp [Item.ids] at hi; subst hi
  rw [Item.ok, hd] at h; cases h
 | imm v z xs =>
  rcases h with ⟨rfl, _⟩ | ⟨k, lo, zs, rfl, h2, _⟩
  ·simp [Item.ids, idOf] at hi
  ·simp [Item.ids, idOf] at hi; subst hi; rw [hd] at h2; cases h2
theorem Item.ids_one {it : Item} {H : Hs} (h : it.ok H) {i j : Nat} (hi : i ∈ it.ids) (hj : j ∈ it.ids) : i = j := by
 cases it with
 | own v z xs =>
  rcases h with ⟨rfl, _⟩ | ⟨k, ys, rfl, _⟩ <;> simp [Item.ids, idOf] at hi hj
  rw [hi, hj]
 | box b cs => simp [Item.ids] at hi hj; rw [hi, hj]
 | mp b es => simp [Item.ids] at hi hj; rw [hi, hj]
 | imm v z xs =>
  rcases h with ⟨rfl, _⟩ | ⟨k, lo, zs, rfl, _⟩ <;> simp [Item.ids, idOf] at hi hj
  rw [hi, hj]
theorem filter_flat {α β : Type} (f : α → List β) (p : α → Bool) (l : List α) : List.Sublist ((l.filter p).flatMap f) (l.flatMap f) := by
 induction l with
 | nil => exact .slnil
 | cons a l ih =>
  rw [List.filter_cons]
  split
  ·simp only [List.flatMap_cons]; exact (List.Sublist.refl _).append ih
  ·rw [List.flatMap_cons]; exact ih.trans (List.sublist_append_right _ _)
end
section
variable {C : Cfg} {gs : Nat → AV} {hom : Hs} {nx : Nat} {ops : Array Oper} {rest : List Oper} {R : St → Prop} {acc : List Ft} {pz : List (Nat × Nat)}
variable {dst : Option Tmp} {ty : TypeId} {ps : String} {af : Array Edge} {g : Option (Nat × Bool)} {ρ : Type} {r : ρ}
open Classical in
theorem raw_frame {f : FuncId} {vs : List AV} {A L : List Item} {P : List AV → List Item → Prop} (hP : HP hom nx (A ++ L)) (hv : ∀ v ∈ vs, MC A v) (hb : CB A A) (hre : ∀ it ∈ A, LeadsIt hom vs it)
  (hc : ∀ H n L', HP H n (A ++ L') → Raw C f vs H n (fun rs H' n' => ∃ As, P rs As ∧ HP H' n' (As ++ L'))) :
  (∀ i, Leads hom vs i → ∃ it ∈ A, i ∈ it.ids) ∧ (∀ i, Leads hom vs i → i < nx) ∧ ∃ rs H1 n1 As, callR C f vs (restr (Leads hom vs) hom) nx = some (rs, H1, n1) ∧ nx ≤ n1 ∧ P rs As ∧ HP (merge (Leads hom vs) nx n1 hom H1) n1 (As ++ L) := by
 have hok : ∀ it ∈ A, it.ok hom := fun it hi => hP.ok it (List.mem_append_left _ hi)
 have hA : ∀ i, Leads hom vs i → ∃ it ∈ A, i ∈ it.ids := by
  refine Leads.sub (X := fun i => ∃ it ∈ A, i ∈ it.ids) ?_ fun v hm i h => (hv v hm).ids hok i h
  rintro j cs c i ⟨it, hit, hj⟩ hbx hcm hm
  have hbi : it = .box j cs := by
   have h1 := hok it hit
   cases it with
   | own v z xs =>
    rcases h1 with ⟨rfl, _⟩ | ⟨k, ys, rfl, h2⟩ <;> simp [Item.ids, idOf] at hj
    subst hj; rw [h2] at hbx; cases hbx
   | box b cs' =>
    simp [Item.ids] at hj; subst hj
    rw [Item.ok, hbx] at h1; cases h1; rfl
   | mp b es =>
    simp [Item.ids] at hj; subst hj
    rw [Item.ok, hbx] at h1; cases h1
   | imm v z xs =>
    rcases h1 with ⟨rfl, _⟩ | ⟨k, lo, zs, rfl, h2, _⟩ <;> simp [Item.ids, idOf] at hj
    subst hj; rw [h2] at hbx; cases hbx
  subst hbi
  exact (hb j cs hit c hcm).ids hok i hm
 have hlt : ∀ i, Leads hom vs i → i < nx := fun i hi => let ⟨it, h1, h2⟩ := hA i hi; hP.lt it (List.mem_append_left _ h1) i h2
 have rin : ∀ i, Leads hom vs i → restr (Leads hom vs) hom i = hom i := fun i hi => by simp [restr, hi]
 have rout : ∀ i, ¬ Leads hom vs i → restr (Leads hom vs) hom i = .dead := fun i hi => by simp [restr, hi]
 refine ⟨hA, hlt, ?_⟩
 let p : Item → Bool := fun it => decide (∃ i ∈ it.ids, Leads hom vs i)
 have hin : ∀ it ∈ A ++ L, p it = true → ∀ i ∈ it.ids, Leads hom vs i := by
  intro it hm hp i hi
  obtain ⟨j, hj, hl⟩ := of_decide_eq_true hp
  rw [Item.ids_one (hP.ok it hm) hi hj]; exact hl
 have hP1 : HP (restr (Leads hom vs) hom) nx (A ++ L.filter p) := by
  refine ⟨?_, fun it hm => ?_, fun it hm i hi => ?_⟩
  ·refine List.Nodup.sublist ?_ hP.nd
   rw [List.flatMap_append, List.flatMap_append]
   exact (List.Sublist.refl _).append (filter_flat _ _ _)
  ·rcases List.mem_append.1 hm with hm | hm
   ·exact Item.ok_eq (hok it hm) fun i hi => rin i (hre it hm i hi)
   ·obtain ⟨h1, h2⟩ := List.mem_filter.1 hm
    exact Item.ok_eq (hP.ok it (List.mem_append_right _ h1)) fun i hi => rin i (hin it (List.mem_append_right _ h1) h2 i hi)
  ·rcases List.mem_append.1 hm with hm | hm
   ·exact hP.lt it (List.mem_append_left _ hm) i hi
   ·exact hP.lt it (List.mem_append_right _ (List.mem_filter.1 hm).1) i hi
 obtain ⟨rs, H1, n1, h1, As, hPA, hP2⟩ := hc _ nx _ hP1
 obtain ⟨hn, hd⟩ := callR_dead C _ _ _ _ _ h1
 simp only at hn hd
 have away : ∀ it ∈ L, p it = false → ∀ i ∈ it.ids, ¬ (Leads hom vs i ∨ (nx ≤ i ∧ i < n1)) := by
  intro it hm hp i hi
  have hl := hP.lt it (List.mem_append_right _ hm) i hi
  rintro (h2 | h2)
  ·exact absurd (show p it = true from decide_eq_true ⟨i, hi, h2⟩) (by rw [hp]; simp)
  ·omega
 have near : ∀ it ∈ As ++ L.filter p, ∀ i ∈ it.ids, Leads hom vs i ∨ (nx ≤ i ∧ i < n1) := by
  intro it hm i hi
  have ha := Item.ok_alive (hP2.ok it hm) i hi
  by_cases h2 : Leads hom vs i
  ·exact .inl h2
  ·refine .inr ⟨?_, hP2.lt it hm i hi⟩
   refine Nat.le_of_not_lt fun h3 => ha (hd i h3 (rout i h2))
 refine ⟨rs, H1, n1, As, h1, hn, hPA, ?_, fun it hm => ?_, fun it hm i hi => ?_⟩
 ·rw [List.flatMap_append, List.nodup_append]
  have n2 := hP2.nd
  rw [List.flatMap_append, List.nodup_append] at n2
  have nL := hP.nd
  rw [List.flatMap_append, List.nodup_append] at nL
  refine ⟨n2.1, nL.2.1, ?_⟩
  rintro i hi j hj rfl
  obtain ⟨it, h2, h3⟩ := List.mem_flatMap.1 hj
  by_cases hp : p it = true
  ·exact n2.2.2 i hi i (List.mem_flatMap.2 ⟨it, List.mem_filter.2 ⟨h2, hp⟩, h3⟩) rfl
  ·obtain ⟨a, h4, h5⟩ := List.mem_flatMap.1 hi
   exact away it h2 (by simpa using hp) i (mem_live_ids it i h3) (near a (List.mem_append_left _ h4) i (mem_live_ids a i h5))
 ·rcases List.mem_append.1 hm with hm | hm
  ·exact Item.ok_eq (hP2.ok it (List.mem_append_left _ hm)) fun i hi => merge_in (near it (List.mem_append_left _ hm) i hi)
  ·by_cases hp : p it = true
   ·have hm' : it ∈ As ++ L.filter p := List.mem_append_right _ (List.mem_filter.2 ⟨hm, hp⟩)
    exact Item.ok_eq (hP2.ok it hm') fun i hi => merge_in (near it hm' i hi)
   ·exact Item.ok_eq (hP.ok it (List.mem_append_right _ hm)) fun i hi => merge_out (away it hm (by simpa using hp) i hi)
 ·rcases List.mem_append.1 hm with hm | hm
  ·exact hP2.lt it (List.mem_append_left _ hm) i hi
  ·exact Nat.lt_of_lt_of_le (hP.lt it (List.mem_append_right _ hm) i hi) hn
structure OffR (A L : List Item) (nx : Nat) : Prop where
 off : ∀ it ∈ L, ∀ i ∈ it.live, i ∉ A.flatMap Item.ids ∧ i < nx
 lt : ∀ i ∈ A.flatMap Item.ids, i < nx
theorem offR_of {H : Hs} {A L : List Item} (hP : HP H nx (A ++ L)) : OffR A L nx := by
 refine ⟨fun it hm i hi => ⟨fun hc => ?_, hP.lt it (List.mem_append_right _ hm) i (mem_live_ids it i hi)⟩, fun i hi => ?_⟩
 ·obtain ⟨a, h1, h2⟩ := List.mem_flatMap.1 hc
  obtain ⟨L1, L2, rfl⟩ := List.append_of_mem hm
  have hp : (A ++ (L1 ++ it :: L2)).Perm (it :: (A ++ (L1 ++ L2))) := by
   rw [← List.append_assoc, ← List.append_assoc]
   exact List.perm_middle
  exact (hP.perm hp).apart hi a (List.mem_append_left _ h1) h2
 ·obtain ⟨a, h1, h2⟩ := List.mem_flatMap.1 hi
  exact hP.lt a (List.mem_append_left _ h1) i h2
theorem OffR.box {A L : List Item} {n k b : Nat} {cs : List AV} (h : OffR A L n) (hk : L[k]? = some (.box b cs)) : b ∉ A.flatMap Item.ids ∧ b < n := h.off _ (List.mem_of_getElem? hk) b (by simp [Item.live])
theorem OffR.imm {A L : List Item} {n k : Nat} {w : AV} {z : Row} {xs : List Dat} (_ : OffR A L n) (_ : L[k]? = some (.imm w z xs)) : True := trivial
theorem x_raw {β : Type} {m : Option β} {k : β → Option ρ} {fv : Operand} {f : FuncId} {caps : List AV} {args : Array Operand} {ts : Array TypeId} (vs : List AV) {A L : List Item} {P : β → List AV → List Item → Prop} (hm : (m >>= k) = some r)
  (hw : wantedA ops gs ⟨dst, .call ⟨.value fv, args, ts⟩, ty, ps, af, g⟩ = some true) (hfn : fnOf (ev C ⟨gs, hom, nx⟩ fv) = some (f, caps)) (hs : C.sig f = .raw) (ha : args.toList.map (ev C ⟨gs, hom, nx⟩) ++ caps = vs)
  (hP : HP hom nx (A ++ L)) (hv : ∀ v ∈ vs, MC A v) (hb : CB A A) (hre : ∀ it ∈ A, LeadsIt hom vs it)
  (hc : ∀ y, m = some y → ∀ H n L', HP H n (A ++ L') → Raw C f vs H n (fun rs H' n' => ∃ As, P y rs As ∧ HP H' n' (As ++ L')))
  (h : ∀ y rs As H' n', k y = some r → P y rs As → HP H' n' (As ++ L) → OffR A L nx → nx ≤ n' → EX C ops rest ⟨putR gs dst (tupA rs), H', n'⟩ (rawFt (A.flatMap Item.ids) nx n' :: acc) pz R) :
  EX C ops (⟨dst, .call ⟨.value fv, args, ts⟩, ty, ps, af, g⟩ :: rest) ⟨gs, hom, nx⟩ acc pz R := by
 obtain ⟨y, h1, h2⟩ := Option.bind_eq_some_iff.1 hm
 obtain ⟨hA, hlt, rs, H1, n1, As, h3, hn, h4, h5⟩ := raw_frame hP hv hb hre (hc y h1)
 subst ha
 refine x_opF (v := tupA rs) (H1 := merge (Leads hom (args.toList.map (ev C ⟨gs, hom, nx⟩) ++ caps)) nx n1 hom H1) (n1 := n1) _ hw ?_ ?_ (h y rs As _ n1 h2 h4 h5 (offR_of hP) hn)
 ·rw [opF]
  simp only [hfn, hs]
  rw [guardP_t hlt]
  simp [h3]
 ·have hft : footA C hom nx n1 (ev C ⟨gs, hom, nx⟩) (.call ⟨.value fv, args, ts⟩) = ⟨Leads hom (args.toList.map (ev C ⟨gs, hom, nx⟩) ++ caps), fun i => Leads hom (args.toList.map (ev C ⟨gs, hom, nx⟩) ++ caps) i ∨ (nx ≤ i ∧ i < n1)⟩ := by simp only [footA, hfn, hs]
  show LeF (footA C hom nx n1 _ (.call ⟨.value fv, args, ts⟩)) _
  rw [hft]
  have hin : ∀ i, Leads hom (args.toList.map (ev C ⟨gs, hom, nx⟩) ++ caps) i → i ∈ A.flatMap Item.ids := fun i hi => let ⟨it, h6, h7⟩ := hA i hi; List.mem_flatMap.2 ⟨it, h6, h7⟩
  exact ⟨hin, fun i hi => hi.imp (hin i) id⟩
end
end Go.Jv
namespace Go.Jv
def mfind {κ ν : Type} [DecidableEq κ] (k : κ) : List (κ × ν) → Nat → Option (Nat × ν)
 | [], _ => none
 | (q, v) :: es, i => if k = q then some (i, v) else mfind k es (i + 1)
def mget {κ ν : Type} [DecidableEq κ] (l : List (κ × ν)) (k : κ) : Option ν := (mfind k l 0).map (·.2)
def mput {κ ν : Type} [DecidableEq κ] (l : List (κ × ν)) (k : κ) (v : ν) : List (κ × ν) := match mfind k l 0 with | some p => l.set p.1 (k, v) | none => l ++ [(k, v)]
def eM {κ ν : Type} (eK : κ → Dat) (eV : ν → Dat) (l : List (κ × ν)) : List (Dat × Dat) := l.map fun p => (eK p.1, eV p.2)
theorem findD_mfind {κ ν : Type} [DecidableEq κ] {eK : κ → Dat} {eV : ν → Dat} (hs : ∀ a b, sameD (eK a) (eK b) = some (decide (a = b))) (k : κ) : ∀ (l : List (κ × ν)) (i : Nat), findD (eK k) (eM eK eV l) i = some ((mfind k l i).map fun p => (p.1, eV p.2))
 | [], i => rfl
 | (q, v) :: l, i => by
  have ih := findD_mfind hs k (eV := eV) l (i + 1)
  simp only [eM] at ih
  simp only [eM, List.map_cons, findD, hs, mfind]
  by_cases h : k = q
  ·simp [h]
  ·simp [h, ih]
theorem mapPut_mput {κ ν : Type} [DecidableEq κ] {eK : κ → Dat} {eV : ν → Dat} (hs : ∀ a b, sameD (eK a) (eK b) = some (decide (a = b))) (l : List (κ × ν)) (k : κ) (v : ν) : mapPut (eM eK eV l) (eK k) (eV v) = some (eM eK eV (mput l k v)) := by
 simp only [mapPut, findD_mfind hs, mput]
 cases mfind k l 0 with
 | none => simp [eM]
 | some p => simp [eM, List.map_set]
theorem same_str : ∀ a b : ByteArray, sameD (.str a) (.str b) = some (decide (a = b)) := fun a b => by
 simp only [sameD]
 by_cases h : a = b
 ·simp [h, (MapKept.bytes_beq b b).2 rfl]
 ·have : (a == b) = false := by
   cases hb : (a == b) with
   | false => rfl
   | true => exact absurd ((MapKept.bytes_beq a b).1 hb) h
  simp [h, this]
theorem kok_str {C : Cfg} {k : TypeId} {a b : Nat} {c : List AV} (h : C.ty k = some ⟨.string, a, b, c⟩) : ∀ x, keyOk C k (.str x) = true := fun x => by simp [keyOk, h]
theorem Raw.to {C : Cfg} {f : FuncId} {vs : List AV} {H : Hs} {n : Nat} {Q Q' : List AV → Hs → Nat → Prop} (h : Raw C f vs H n Q) (k : ∀ rs H' n', Q rs H' n' → Q' rs H' n') : Raw C f vs H n Q' :=
 let ⟨rs, H1, n1, h1, h2⟩ := h; ⟨rs, H1, n1, h1, k _ _ _ h2⟩
section
variable {C : Cfg} {gs : Nat → AV} {hom : Hs} {nx : Nat} {q : Bool} {ops : Array Oper} {rest : List Oper} {R : St → Prop} {acc : List Ft} {pz : List (Nat × Nat)}
variable {dst : Option Tmp} {ty : TypeId} {ps : String} {af : Array Edge} {g : Option (Nat × Bool)} {t u : TypeId} {x y z : Operand} {v : AV} {ρ : Type} {r : ρ} {L : List Item}
theorem o_mkmap {k e : TypeId} (hm : mapT C t = some (k, e)) : opV C (ev C ⟨gs, hom, nx⟩) (.makeMap t none) hom nx = some (.mp nx, upd hom nx (.map []), nx + 1) := by
 rw [opV_act (fun _ _ _ h => by cases h)]; simp [act, hm]
theorem w_mkmap {k e : TypeId} (hw : wantedA ops gs ⟨dst, .makeMap t none, ty, ps, af, g⟩ = some true) (hm : mapT C t = some (k, e)) (hH : HP hom nx L)
  (h : ∀ id H' n', HP H' n' (.mp id [] :: L) → EW false C ops rest ⟨putR gs dst (.mp id), H', n'⟩ R) : EW false C ops (⟨dst, .makeMap t none, ty, ps, af, g⟩ :: rest) ⟨gs, hom, nx⟩ R :=
 w_op hw (o_mkmap hm) (by simp) (h _ _ _ (hH.new rfl (by simp [Item.ok, upd])))
theorem o_look {κ ν : Type} [DecidableEq κ] {eK : κ → Dat} {eV : ν → Dat} {l : List (κ × ν)} {key : κ} {zv : ν} {k e : TypeId} {id j : Nat} {ok : Bool} (hs : ∀ a b, sameD (eK a) (eK b) = some (decide (a = b))) (hm : mapT C t = some (k, e)) (hk : ∀ a, keyOk C k (eK a) = true)
  (hz : zeroD C e = some (eV zv)) (hH : HP hom nx L) (hj : L[j]? = some (.mp id (eM eK eV l))) (hx : ev C ⟨gs, hom, nx⟩ x = .mp id) (hy : ev C ⟨gs, hom, nx⟩ y = .d (eK key)) :
  opV C (ev C ⟨gs, hom, nx⟩) (.lookup t x y ok) hom nx = some (if ok then .tup [.d (eV ((mget l key).getD zv)), .d (.bool (mget l key).isSome)] else .d (eV ((mget l key).getD zv)), hom, nx) := by
 have h1 : hom id = .map (eM eK eV l) := hH.get hj
 rw [opV_act (fun _ _ _ h => by cases h)]
 simp only [act, lookupA, hx, hy, datA, hm, h1, hk, if_true, hz, findD_mfind hs, mget]
 cases mfind key l 0 <;> simp
theorem w_look2 {κ ν : Type} [DecidableEq κ] {eK : κ → Dat} {eV : ν → Dat} {l : List (κ × ν)} {key : κ} {zv : ν} {k e : TypeId} {id j : Nat} (hw : wantedA ops gs ⟨dst, .lookup t x y true, ty, ps, af, g⟩ = some true) (hs : ∀ a b, sameD (eK a) (eK b) = some (decide (a = b))) (hm : mapT C t = some (k, e)) (hk : ∀ a, keyOk C k (eK a) = true)
  (hz : zeroD C e = some (eV zv)) (hH : HP hom nx L) (hj : L[j]? = some (.mp id (eM eK eV l))) (hx : ev C ⟨gs, hom, nx⟩ x = .mp id) (hy : ev C ⟨gs, hom, nx⟩ y = .d (eK key))
  (h : EW q C ops rest ⟨putR gs dst (.tup [.d (eV ((mget l key).getD zv)), .d (.bool (mget l key).isSome)]), hom, nx⟩ R) : EW q C ops (⟨dst, .lookup t x y true, ty, ps, af, g⟩ :: rest) ⟨gs, hom, nx⟩ R :=
 w_op hw (o_look (ok := true) hs hm hk hz hH hj hx hy) (fun _ => ⟨rfl, rfl⟩) h
theorem w_mput {κ ν : Type} [DecidableEq κ] {eK : κ → Dat} {eV : ν → Dat} {l : List (κ × ν)} {key : κ} {w : ν} {k e : TypeId} {id j : Nat} (vz : AV) {L' : List Item} (hw : wantedA ops gs ⟨dst, .mapUpdate t x y z, ty, ps, af, g⟩ = some true) (hs : ∀ a b, sameD (eK a) (eK b) = some (decide (a = b))) (hm : mapT C t = some (k, e)) (hk : ∀ a, keyOk C k (eK a) = true)
  (hz : ev C ⟨gs, hom, nx⟩ z = vz) (hf : FS 3 hom nx [vz] [eV w] L') (hj : L'[j]? = some (.mp id (eM eK eV l))) (hx : ev C ⟨gs, hom, nx⟩ x = .mp id) (hy : ev C ⟨gs, hom, nx⟩ y = .d (eK key))
  (h : ∀ H', HP H' nx (L'.set j (.mp id (eM eK eV (mput l key w)))) → EW false C ops rest ⟨putR gs dst .undef, H', nx⟩ R) : EW false C ops (⟨dst, .mapUpdate t x y z, ty, ps, af, g⟩ :: rest) ⟨gs, hom, nx⟩ R := by
 obtain ⟨H1, h8, hH⟩ := hf
 have h9 : frz 4 hom vz = some (eV w, H1) := by
  rw [frzL] at h8
  revert h8
  cases hv : frz (3 + 1) hom vz with
  | none => intro h8; cases h8
  | some p => intro h8; simp only [frzL, Option.some.injEq, Prod.mk.injEq, List.cons.injEq, and_true] at h8; rw [← h8.1, ← h8.2]
 have h1 : H1 id = .map (eM eK eV l) := hH.get hj
 refine w_op hw (v := .undef) (H1 := upd H1 id (.map (eM eK eV (mput l key w)))) (n1 := nx) ?_ (by simp) (h _ (((hH.pick j hj).write (a := .mp id (eM eK eV l)) (by simp [Item.live]) rfl (by simp [Item.ok, upd])).perm (set_perm _ _ _ _ hj)))
 rw [opV_act (fun _ _ _ h => by cases h)]
 simp only [act, mapUpdA, hx, hy, datA, hm, hz, h9, h1, hk, if_true, mapPut_mput hs, Option.map_some]
theorem x_cut_imm {α : Type} {enc : α → Dat} {l : List α} {A M : Int} {k : List α → Option ρ} {lo hi : Option Operand} {el : TypeId} {m : Nat} {a : Bool} {L : List Item} {j : Nat} {w : AV} (hm : ((cut l A M) >>= k) = some r) (hw : wantedA ops gs ⟨dst, .slice t x lo hi none, ty, ps, af, g⟩ = some true)
  (he : elemT C t = some el) (hz : szg C el = some (m, a)) (hH : HP hom nx L) (hj : L[j]? = some (.imm w ⟨el, m⟩ (l.map enc))) (hx : ev C ⟨gs, hom, nx⟩ x = w) (hb : LH l.length (lo.map (ev C ⟨gs, hom, nx⟩)) (hi.map (ev C ⟨gs, hom, nx⟩)) A M)
  (h : ∀ v w', k v = some r → HP hom nx (.imm w' ⟨el, m⟩ (v.map enc) :: L) → EX C ops rest ⟨putR gs dst w', hom, nx⟩ (.of (idOf w) [] :: acc) pz R) : EX C ops (⟨dst, .slice t x lo hi none, ty, ps, af, g⟩ :: rest) ⟨gs, hom, nx⟩ acc pz R := by
 obtain ⟨v, h1, h2⟩ := Option.bind_eq_some_iff.1 hm
 unfold cut at h1
 obtain ⟨ye, h3, h4⟩ := elemT_ty he
 have hadd : ∀ w' xs, (Item.imm w' ⟨el, m⟩ xs).ok hom → (∀ i ∈ idOf w', i < nx) → HP hom nx (.imm w' ⟨el, m⟩ xs :: L) := fun w' xs hk hi => ⟨by rw [List.flatMap_cons]; simpa [Item.live] using hH.nd, fun it hit => by
  rcases List.mem_cons.1 hit with rfl | hit
  ·exact hk
  ·exact hH.ok it hit, fun it hit i hm => by
  rcases List.mem_cons.1 hit with rfl | hit
  ·exact hi i hm
  ·exact hH.lt it hit i hm⟩
 split at h1
 ·rename_i h0
  cases h1
  have hlh := hb h0.1 h0.2.1 h0.2.2
  rcases hH.get hj with ⟨h5, h6⟩ | ⟨id, p, zs, h5, h6, h7, h8⟩
  ·simp only [List.map_eq_nil_iff] at h6
   subst h6
   refine x_op (v := .nil) (H1 := hom) (n1 := nx) (.of (idOf w) []) hw (o_slice ?_) ⟨by simp only [footA, hx], rfl⟩ (h _ _ h2 (hadd _ _ (.inl ⟨rfl, by simp⟩) (by simp [idOf])))
   simp only [List.length_nil] at hlh
   simp only [sliceA, h3, h4, hx, h5, Bool.false_eq_true, if_false, (szg_parts hz).1, Option.isSome_some, if_true, hlh]
   rfl
  ·rw [List.length_map] at h5 h7 h8
   have hlen : (List.take (M.toNat - A.toNat) (List.drop A.toNat l)).length = M.toNat - A.toNat := by simp; omega
   refine x_op (v := .sl id (p + A.toNat) (p + M.toNat)) (H1 := hom) (n1 := nx) (.of (idOf w) []) hw (o_slice ?_) ⟨by simp only [footA, hx], rfl⟩ (h _ _ h2 (hadd _ _ (.inr ⟨id, p + A.toNat, zs, ?_, h6, ?_, ?_⟩) ?_))
   ·have hsz : szIs (hom id) (some m) = true := by simp [szIs, h6, szOf]
    simp only [sliceA, h3, h4, hx, h5, Bool.false_eq_true, if_false, (szg_parts hz).1, hsz, if_true, Nat.add_sub_cancel_left, hlh]
    rfl
   ·rw [List.length_map, hlen]; congr 1; omega
   ·rw [List.length_map, hlen]; omega
   ·rw [List.length_map, hlen]
    have e : List.map enc (List.take (M.toNat - A.toNat) (List.drop A.toNat l)) = List.take (M.toNat - A.toNat) (List.drop A.toNat (win zs p (p + l.length))) := by rw [h8, List.map_take, List.map_drop]
    rw [e]
    simp only [win]
    rw [List.drop_take, List.take_take, List.drop_drop]
    congr 1
    omega
   ·intro i hi'
    simp only [idOf, List.mem_singleton] at hi'
    subst hi'
    exact hH.lt _ (List.mem_of_getElem? hj) _ (by simp [Item.ids, h5, idOf])
 ·cases h1
theorem x_bslice1 {α : Type} {enc : α → Dat} {e : α} (v : AV) {el m : Nat} {a : Bool} {zs : List AV} {o : Operand} {L : List Item} (hw : wantedA ops gs ⟨dst, .buildSlice t 1 #[(0, o)], ty, ps, af, g⟩ = some true)
  (he : elemT C t = some el) (hz : szg C el = some (m, a)) (hy : (C.ty el).map (·.zero) = some zs) (h0 : 0 < m ∧ 1 * m ≤ 16777216) (hZ : ∃ z, zeroD C el = some z ∧ z.cells.length = m ∧ (z.cells.map AV.d).all okC = true) (hc : ∀ v, (enc v).cells.length = m) (hk : ∀ v, ((enc v).cells.map AV.d).all okC = true)
  (h1 : ev C ⟨gs, hom, nx⟩ o = v) (h2 : FS 3 hom nx [v] [enc e] L)
  (h : ∀ w id H' n', HP H' n' (.own w ⟨el, m⟩ ([e].map enc) :: L) → Off L [] id → nx ≤ id ∧ n' = id + 1 → idOf w = [id] → EX C ops rest ⟨putR gs dst w, H', n'⟩ (wholeFt :: acc) pz R) : EX C ops (⟨dst, .buildSlice t 1 #[(0, o)], ty, ps, af, g⟩ :: rest) ⟨gs, hom, nx⟩ acc pz R := by
 obtain ⟨zd, h3, h4, h5⟩ := hZ
 obtain ⟨yt, h6, rfl⟩ := Option.map_eq_some_iff.1 hy
 have h7 : yt.size = m := by have := (szg_parts hz).1; simpa [sizeT, h6] using this
 obtain ⟨H1, h8, hH⟩ := h2
 have h9 : frz 4 hom v = some (enc e, H1) := by
  rw [frzL] at h8
  revert h8
  cases hv : frz (3 + 1) hom v with
  | none => intro h8; cases h8
  | some p => intro h8; simp only [frzL, Option.some.injEq, Prod.mk.injEq, List.cons.injEq, and_true] at h8; rw [← h8.1, ← h8.2]
 have hp' : HP (upd H1 nx (.own ⟨el, m⟩ ([e].map enc))) (nx + 1) (.own (.sl nx 0 1) ⟨el, m⟩ ([e].map enc) :: L) :=
  hH.new (by simp [Item.ids, idOf]) (.inr ⟨nx, [], by simp, by simp [upd]⟩)
 refine x_opF (v := .sl nx 0 1) (H1 := upd H1 nx (.own ⟨el, m⟩ ([e].map enc))) (n1 := nx + 1) wholeFt hw ((opF_nc rfl).trans ?_) ⟨fun _ _ => trivial, fun _ _ => trivial⟩ (h _ nx _ _ hp' ⟨fun it hi i hm => ⟨by simp, hH.lt it hi i hm⟩, by simp⟩ ⟨Nat.le_refl _, rfl⟩ rfl)
 rw [opV_act (fun _ _ _ h => by cases h)]
 simp only [act, he, h3, h6, h7]
 rw [if_pos ⟨h4, h5, h0.1, h0.2⟩]
 simp only [List.map_cons, List.map_nil, h1]
 rw [show List.replicate 1 zd = [zd] from rfl, partsD_one h9 (hc e) (hk e)]
theorem w_index3a {α : Type} {f : α → List AV} {w : A3 α} {el : TypeId} {i : Int} {kd : IntKind} {k : α → Option ρ} {m : Nat} (hm : ((w.get i) >>= k) = some r) (hw : wantedA ops gs ⟨dst, .index t x y, ty, ps, af, g⟩ = some true) (ha : arrT C t = some (3, el)) (hz : szg C el = some (m, true))
  (hx : ev C ⟨gs, hom, nx⟩ x = .agg (f w.e0 ++ (f w.e1 ++ f w.e2))) (hl : ∀ v, (f v).length = m) (hy : ev C ⟨gs, hom, nx⟩ y = .d (.int kd i))
  (h : ∀ v, k v = some r → EW q C ops rest ⟨putR gs dst (.agg (f v)), hom, nx⟩ R) : EW q C ops (⟨dst, .index t x y, ty, ps, af, g⟩ :: rest) ⟨gs, hom, nx⟩ R := by
 obtain ⟨v, h1, h2⟩ := Option.bind_eq_some_iff.1 hm
 have key : ∀ j : Int, 0 ≤ j ∧ j < (3 : Nat) → i = j → partA (ev C ⟨gs, hom, nx⟩ x) (j.toNat * m) m true = some (.agg (f v)) → EW q C ops (⟨dst, .index t x y, ty, ps, af, g⟩ :: rest) ⟨gs, hom, nx⟩ R := by
  intro j hj hij hp
  subst hij
  exact w_index hw ha hz (fun b hb => by rw [hx] at hb; cases hb) hy hj hp (h v h2)
 have l0 := hl w.e0
 have l1 := hl w.e1
 have l2 := hl w.e2
 unfold A3.get at h1
 split at h1
 ·rename_i e; cases h1
  refine key 0 (by omega) e ?_
  rw [hx]
  have : (List.take m (f w.e0 ++ (f w.e1 ++ f w.e2))) = f w.e0 := by rw [← l0]; simp
  simp [partA, cutA, mkA, this, l0]
 ·split at h1
  ·rename_i e; cases h1
   refine key 1 (by omega) e ?_
   rw [hx]
   have : (List.take m (List.drop m (f w.e0 ++ (f w.e1 ++ f w.e2)))) = f w.e1 := by
    have : List.drop m (f w.e0 ++ (f w.e1 ++ f w.e2)) = f w.e1 ++ f w.e2 := by rw [← l0]; simp
    rw [this]; rw [← l1]; simp
   have e2 : Int.toNat 1 * m = m := by simp
   simp only [partA, cutA, List.length_append, l0, l1, l2, e2]
   rw [if_pos (by omega)]
   simp [mkA, this]
  ·split at h1
   ·rename_i e; cases h1
    refine key 2 (by omega) e ?_
    rw [hx]
    have : (List.take m (List.drop (2 * m) (f w.e0 ++ (f w.e1 ++ f w.e2)))) = f w.e2 := by
     have e1 : List.drop (2 * m) (f w.e0 ++ (f w.e1 ++ f w.e2)) = f w.e2 := by
      rw [← List.append_assoc]
      have : 2 * m = (f w.e0 ++ f w.e1).length := by simp [l0, l1]; omega
      rw [this]; simp
     rw [e1, List.take_of_length_le (by omega)]
    have e2 : Int.toNat 2 * m = 2 * m := rfl
    simp only [partA, cutA, List.length_append, l0, l1, l2, e2]
    rw [if_pos (by omega)]
    simp [mkA, this]
   ·cases h1
theorem so_agg {H : Hs} {N : Nat} {cs : List AV} {ds : List Dat} (h : seeAll (see N H) cs = some ds) : see (N + 1) H (.agg cs) = some (.agg ds) := by simp [see, h]
theorem callD_ext {f : FuncId} {xs rs : List Dat} (h : C.ext f xs = some rs) : callD C f xs = some rs := by rw [callD, h]
def indexByteS (s : ByteArray) (c : Int) : Option Int := some (firstIdx s c.toNat.toUInt8)
end
end Go.Jv
namespace Go.Jv
theorem w64_eq (n : Int) : w64 n = (n + 9223372036854775808) % 18446744073709551616 - 9223372036854775808 := by
 unfold w64; rw [IntKind.wrap_i64]
theorem w64_id {n : Int} (h : -9223372036854775808 ≤ n ∧ n ≤ 9223372036854775807) : w64 n = n := by rw [w64_eq]; omega
theorem idx_nat {α : Type} (l : List α) (j : Nat) : idx l (j : Int) = l[j]? := by simp [idx]
theorem app_ok {α : Type} {B : Nat} {l new : List α} (h : (l.length + new.length) * B ≤ 140737488355328) : app B l new = some (l ++ new) := by rw [app, if_pos h]
theorem cut_ok {α : Type} {l : List α} {lo hi : Int} (h0 : 0 ≤ lo) (h1 : lo ≤ hi) (h2 : hi ≤ l.length) : cut l lo hi = some ((l.drop lo.toNat).take (hi.toNat - lo.toNat)) := by rw [cut, if_pos ⟨h0, h1, h2⟩]
theorem cut_pre {α : Type} {l : List α} {hi : Int} (h1 : 0 ≤ hi) (h2 : hi ≤ l.length) : cut l 0 hi = some (l.take hi.toNat) := by rw [cut_ok (by omega) h1 h2]; simp
theorem some_bind {α β : Type} (a : α) (f : α → Option β) : (some a >>= f) = f a := rfl
end Go.Jv
namespace Go.Jv
def E2 {α : Type} (a b : Option α) : Prop := ∃ v, a = some v ∧ b = some v
theorem E2.rfl' {α : Type} {v : α} : E2 (some v) (some v) := ⟨v, rfl, rfl⟩
theorem E2.of {α : Type} {a b : Option α} {v w : α} (h : v = w) (ha : a = some v) (hb : b = some w) : E2 a b := ⟨v, ha, h ▸ hb⟩
theorem E2.ite {α : Type} {c : Prop} [Decidable c] {a b a' b' : Option α} (h : c → E2 a b) (h' : ¬ c → E2 a' b') : E2 (if c then a else a') (if c then b else b') := by
 by_cases hc : c
 ·simp only [if_pos hc]; exact h hc
 ·simp only [if_neg hc]; exact h' hc
theorem E2.bind {α β : Type} {a b : Option α} {f g : α → Option β} (h : E2 a b) (hk : ∀ v, a = some v → E2 (f v) (g v)) : E2 (a >>= f) (b >>= g) := by
 obtain ⟨v, h1, h2⟩ := h; rw [h1, h2]; exact hk v h1
theorem idx_at {α : Type} {l : List α} {i : Nat} (h : i < l.length) : idx l (i : Int) = some (l[i]) := by rw [idx_nat, List.getElem?_eq_getElem h]
theorem w64_succ {i : Nat} (h : i < 4611686018427387904) : w64 ((i : Int) + 1) = ((i + 1 : Nat) : Int) := by rw [w64_id (by omega)]; omega
end Go.Jv
