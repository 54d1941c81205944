/- Steps of a walk in a region that draws its order, where homes are changed: what each operation looks at and changes is kept. -/
import Derived.Test.YtkmbagocakiefaaGreatDoorM2
namespace Go.Jv
structure LeF (f g : Ft) : Prop where
 rd : ∀ i, f.rd i → g.rd i
 md : ∀ i, f.md i → g.md i
theorem LeF.refl (f : Ft) : LeF f f := ⟨fun _ h => h, fun _ h => h⟩
inductive yn : List Ft → List Ft → Prop where
 | nil : yn [] []
 | cons {f b : Ft} {fs bs : List Ft} (h : LeF f b) (hs : yn fs bs) : yn (f :: fs) (b :: bs)
theorem yn.get {fs bs : List Ft} (h : yn fs bs) : ∀ {i : Nat} {f : Ft}, fs[i]? = some f → ∃ b, bs[i]? = some b ∧ LeF f b := by
 induction h with
 | nil => intro i f h; simp at h
 | cons h hs ih =>
  intro i f hi
  cases i with
  | zero => simp at hi; subst hi; exact ⟨_, rfl, h⟩
  | succ i => exact ih (by simpa using hi)
theorem yn.pairs {fs bs : List Ft} (h : yn fs bs) {pz : List (Nat × Nat)} (hp : gL bs pz) : gL fs pz := by
 rintro p hm f g hf hg ⟨i, hc⟩
 obtain ⟨f', h1, h2⟩ := h.get hf
 obtain ⟨g', h3, h4⟩ := h.get hg
 refine hp p hm f' g' h1 h3 ⟨i, ?_⟩
 rcases hc with ⟨a, b | b⟩ | ⟨a, b⟩
 ·exact .inl ⟨h2.md i a, .inl (h4.rd i b)⟩
 ·exact .inl ⟨h2.md i a, .inr (h4.md i b)⟩
 ·exact .inr ⟨h2.rd i a, h4.md i b⟩
def EX (C : Cfg) (ops : Array Oper) (l : List Oper) (s : St) (acc : List Ft) (pz : List (Nat × Nat)) (R : St → Prop) : Prop :=
 ∃ fs bs s', jw C ops l s = some (fs, s') ∧ yn fs bs ∧ gL (acc.reverse ++ bs) pz ∧ R s'
section
variable {C : Cfg} {gs : Nat → AV} {hom : Hs} {nx : Nat} {ops : Array Oper} {rest : List Oper} {R : St → Prop} {Q : Ex → St → Prop} {acc : List Ft} {pz : List (Nat × Nat)}
variable {dst : Option Tmp} {ty : TypeId} {ps : String} {af : Array Edge} {g : Option (Nat × Bool)} {t u : TypeId} {x y z : Operand} {v : AV} {ρ : Type} {r : ρ}
theorem ct {s : St} {c : Code} {p : Way} {i : Nat} (hz : pz.isEmpty = false) (hc : sub c p = .region i ops true) (hd : jQ ops = true) (hu : iU ops.toList = pz) (h : EX C ops ops.toList s [] pz (fun s' => con C c Q p .normal s')) : PAt C c p s Q := by
 obtain ⟨fs, bs, s', h1, hl, h2, h3⟩ := h
 rw [List.reverse_nil, List.nil_append, ← hu] at h2
 have hE : ¬ (iU ops.toList).isEmpty = true := by rw [hu, hz]; simp
 simp only [PAt, hc]
 refine ⟨(.normal, s'), ?_, h3⟩
 rw [dk]
 simp only [hd, if_true, if_neg hE, h1]
 show (ml (gL fs (iU ops.toList))).bind (fun _ => some (Ex.normal, s')) = _
 rw [vQ (hl.pairs h2)]; rfl
def PK (acc : List Ft) (n : Nat) (pz : List (Nat × Nat)) : Prop := acc.length = n → gL acc.reverse pz
theorem pkn {n : Nat} : PK acc n [] := fun _ p hp => by simp at hp
theorem OE {s : St} {n : Nat} (hn : acc.length = n) (hp : PK acc n pz) (h : R s) : EX C ops [] s acc pz R := ⟨[], [], s, by rw [jw], .nil, by rw [List.append_nil]; exact hp hn, h⟩
theorem DI {e : Operand → AV} {o : Op} {H H1 : Hs} {n n1 : Nat} : LeF (jp C H n n1 H1 e o) (bE C H n n1 e o) := by
 unfold jp
 cases hr : jv C e o with
 | none => exact ⟨fun _ h => h, fun _ h => h⟩
 | some vs =>
  unfold jv at hr
  split at hr
  ·rename_i c
   split at hr
   ·rename_i fv hfv
    split at hr
    ·rename_i f caps hfn
     split at hr
     ·rename_i hs
      cases hr
      obtain ⟨callee, args, ats⟩ := c
      subst hfv
      simp only [bE, hfn, hs]
      exact ⟨fun _ h => h, fun i h => h.imp_left And.left⟩
     ·cases hr
    ·cases hr
   ·cases hr
  ·cases hr
theorem KG {o : Oper} {v : AV} {H1 : Hs} {n1 : Nat} (f : Ft) (hw : am ops gs o = some true) (ho : opF C (ev C ⟨gs, hom, nx⟩) o.op hom nx = some (v, H1, n1))
  (hf : LeF (jp C hom nx n1 H1 (ev C ⟨gs, hom, nx⟩) o.op) f) (h : EX C ops rest ⟨aK gs o.dst v, H1, n1⟩ (f :: acc) pz R) : EX C ops (o :: rest) ⟨gs, hom, nx⟩ acc pz R := by
 obtain ⟨fs, bs, s', h1, hl, h2, h3⟩ := h
 refine ⟨_ :: fs, f :: bs, s', ?_, .cons hf hl, by simpa using h2, h3⟩
 rw [jw, hw]; simp only [ho]; simp [h1]
theorem zk {o : Oper} {v : AV} {H1 : Hs} {n1 : Nat} (f : Ft) (hw : am ops gs o = some true) (ho : opF C (ev C ⟨gs, hom, nx⟩) o.op hom nx = some (v, H1, n1))
  (hf : LeF (bE C hom nx n1 (ev C ⟨gs, hom, nx⟩) o.op) f) (h : EX C ops rest ⟨aK gs o.dst v, H1, n1⟩ (f :: acc) pz R) : EX C ops (o :: rest) ⟨gs, hom, nx⟩ acc pz R :=
 KG f hw ho ⟨fun i h => hf.1 i (DI.1 i h), fun i h => hf.2 i (DI.2 i h)⟩ h
theorem bi {o : Oper} {v : AV} {H1 : Hs} {n1 : Nat} (f : Ft) (hw : am ops gs o = some true) (ho : opV C (ev C ⟨gs, hom, nx⟩) o.op hom nx = some (v, H1, n1))
  (hf : bE C hom nx n1 (ev C ⟨gs, hom, nx⟩) o.op = f ∧ lp o.op = false) (h : EX C ops rest ⟨aK gs o.dst v, H1, n1⟩ (f :: acc) pz R) : EX C ops (o :: rest) ⟨gs, hom, nx⟩ acc pz R :=
 zk f hw ((xP hf.2).trans ho) (hf.1 ▸ .refl _) h
theorem bQ {β : Type} {m : Option β} {k : β → Option ρ} {o : Oper} {fv : β → AV} (f : Ft) (hm : (m >>= k) = some r) (hw : am ops gs o = some true)
  (ho : ∀ y, m = some y → opV C (ev C ⟨gs, hom, nx⟩) o.op hom nx = some (fv y, hom, nx)) (hf : bE C hom nx nx (ev C ⟨gs, hom, nx⟩) o.op = f ∧ lp o.op = false)
  (h : ∀ y, k y = some r → EX C ops rest ⟨aK gs o.dst (fv y), hom, nx⟩ (f :: acc) pz R) : EX C ops (o :: rest) ⟨gs, hom, nx⟩ acc pz R := by
 obtain ⟨y, h1, h2⟩ := Option.bind_eq_some_iff.1 hm
 exact bi f hw (ho y h1) hf (h y h2)
theorem HY {β : Type} {m : Option β} {k : β → Option ρ} {f : FuncId} {args : Array Operand} {ts : Array TypeId} {xs : List Dat} {E : β → List Dat} (hm : (m >>= k) = some r)
  (hw : am ops gs ⟨dst, .call ⟨.value (.func f), args, ts⟩, ty, ps, af, g⟩ = some true) (hs : C.sig f = .dat) (hf : gU hom (args.toList.map (ev C ⟨gs, hom, nx⟩)) = some (xs, hom))
  (hd : ((args.toList.map (ev C ⟨gs, hom, nx⟩)).all fun x => (dN x).isSome) = true) (hc : ∀ y, m = some y → aL C f xs = some (E y))
  (h : ∀ y, k y = some r → EX C ops rest ⟨aK gs dst (dv ((E y).map .d)), hom, nx⟩ (az :: acc) pz R) : EX C ops (⟨dst, .call ⟨.value (.func f), args, ts⟩, ty, ps, af, g⟩ :: rest) ⟨gs, hom, nx⟩ acc pz R := by
 obtain ⟨y, h1, h2⟩ := Option.bind_eq_some_iff.1 hm
 refine zk az hw ((F8 (f := f) (caps := []) rfl (by rw [hs]; simp)).trans (HS rfl hs hf (hc y h1))) ?_ (h y h2)
 have : bE C hom nx nx (ev C ⟨gs, hom, nx⟩) (.call ⟨.value (.func f), args, ts⟩) = az := by
  simp only [bE, gP, ev, hs, List.map_nil, List.append_nil]
  have : ((args.toList.map (ev C ⟨gs, hom, nx⟩)).all fun x => (dN x).isSome) = true := hd
  rw [if_pos this]
 rw [this]; exact .refl _
theorem bR {α : Type} {enc : α → Dat} {l : List α} {i : Int} {kd : IntKind} {el : TypeId} {m : Nat} {a : Bool}
  (he : cd C t = some el) (hz : szg C el = some (m, a)) (hc : ∀ v, (enc v).cells.length = m) (hx : ev C ⟨gs, hom, nx⟩ x = .d (.lst (l.map enc))) (hy : ev C ⟨gs, hom, nx⟩ y = .d (.int kd i)) :
  ∀ v, idx l i = some v → opV C (ev C ⟨gs, hom, nx⟩) (.indexAddr t x y) hom nx = some (.d (.ptr (enc v).cells), hom, nx) := by
 intro v hv
 obtain ⟨h0, h1⟩ := lm hv
 refine ph ?_
 simp only [dJ, hx, hy, iR, he]
 rw [if_neg (by omega)]
 simp [h1, (bp hz).1, hc]
theorem GQ {α : Type} {enc : α → Dat} {l : List α} {el : TypeId} (he : cd C t = some el) (hx : ev C ⟨gs, hom, nx⟩ x = .d (.lst (l.map enc))) :
  opV C (ev C ⟨gs, hom, nx⟩) (.call ⟨.builtin .len, #[x], #[t]⟩) hom nx = some (.d (.int .i64 (l.length : Int)), hom, nx) := by
 obtain ⟨y, h1, h2⟩ := jl he
 exact KE (by simp [nc, h1, h2, hx])
def Off (L : List Item) (ids : List Nat) (nx : Nat) : Prop := (∀ it ∈ L, ∀ i ∈ it.ids, i ∉ ids ∧ i < nx) ∧ ∀ i ∈ ids, i < nx
theorem uZ {l : List Item} {zs : List AV} (hw : am ops gs ⟨dst, .alloc t, ty, ps, af, g⟩ = some true) (hy : (C.ty t).map (·.zero) = some zs) (hH : HP hom nx l)
  (h : ∀ id H' n', HP H' n' (.box id zs :: l) → Off l [] id → nx ≤ id ∧ n' = id + 1 → EX C ops rest ⟨aK gs dst (.pt id 0), H', n'⟩ (.of [] [id] :: acc) pz R) : EX C ops (⟨dst, .alloc t, ty, ps, af, g⟩ :: rest) ⟨gs, hom, nx⟩ acc pz R := by
 obtain ⟨yt, h1, rfl⟩ := Option.map_eq_some_iff.1 hy
 exact bi _ hw (GN h1) ⟨rfl, rfl⟩ (h nx _ (nx + 1) (hH.new rfl (by simp [Item.ok, upd])) ⟨fun it hi i hm => ⟨by simp, hH.lt it hi i hm⟩, by simp⟩ ⟨Nat.le_refl _, rfl⟩)
theorem cG {α : Type} {enc : α → Dat} {l new : List α} {B : Nat} {k : List α → Option ρ} {el : TypeId} {m : Nat} {a : Bool} {L : List Item} {j : Nat} {w : AV} (v2 : AV) (hm : ((app B l new) >>= k) = some r)
  (hw : am ops gs ⟨dst, .call ⟨.builtin .append, #[x, y], #[t, t]⟩, ty, ps, af, g⟩ = some true) (he : cd C t = some el) (hz : szg C el = some (m, a)) (hB : (C.ty el).map (·.bytes) = some B) (h0 : 0 < m ∧ 0 < B) (hc : ∀ v, (enc v).cells.length = m)
  (hH : HP hom nx L) (hj : L[j]? = some (.own w ⟨el, m⟩ (l.map enc))) (hx : ev C ⟨gs, hom, nx⟩ x = w) (hv2 : ev C ⟨gs, hom, nx⟩ y = v2) (hy : yX hom v2 (new.map enc))
  (h : ∀ l' w' id H' n', k l' = some r → HP H' n' (.own w' ⟨el, m⟩ (l'.map enc) :: L.eraseIdx j) → Off (L.eraseIdx j) (aH w) id → nx ≤ id ∧ n' = id + 1 → aH w' = [id] → EX C ops rest ⟨aK gs dst w', H', n'⟩ (.of (aH w ++ aH v2) (id :: aH w) :: acc) pz R) :
  EX C ops (⟨dst, .call ⟨.builtin .append, #[x, y], #[t, t]⟩, ty, ps, af, g⟩ :: rest) ⟨gs, hom, nx⟩ acc pz R := by
 obtain ⟨l', h1, h2⟩ := Option.bind_eq_some_iff.1 hm
 have hoff : Off (L.eraseIdx j) (aH w) nx := by
  refine ⟨fun it hi i hmem => ⟨fun hc' => ?_, hH.lt it ((List.eraseIdx_sublist _ _).subset hi) i hmem⟩, fun i hi => hH.lt _ (List.mem_of_getElem? hj) i (by simpa [Item.ids] using hi)⟩
  exact (hH.pick j hj).apart (a := .own w ⟨el, m⟩ (l.map enc)) (by simpa [Item.live] using hc') it hi hmem
 unfold app at h1
 split at h1
 ·rename_i hb
  cases h1
  obtain ⟨H1, h3, h4⟩ := EJ hH hj
  obtain ⟨ye, hye, h5⟩ := Option.map_eq_some_iff.1 hB
  have h6 : ye.size = m := by have := (bp hz).1; simpa [bP, hye] using this
  have hp : HP (upd H1 nx (.own ⟨el, m⟩ ((l ++ new).map enc))) (nx + 1) (.own (.sl nx 0 (l ++ new).length) ⟨el, m⟩ ((l ++ new).map enc) :: L.eraseIdx j) := by
   refine h4.new (by simp [Item.ids, aH]) ?_
   exact .inr ⟨nx, [], by simp, by simp [upd]⟩
  refine bi _ hw (Fy (r := (.sl nx 0 (l ++ new).length, upd H1 nx (.own ⟨el, m⟩ ((l ++ new).map enc)), nx + 1)) ?_) ?_ (h _ _ nx _ _ h2 hp hoff ⟨Nat.le_refl _, rfl⟩ rfl)
  ·simp only [yX] at hy
   simp only [ky, if_true, he, hye, h6, hx, h3, hv2, hy, h5]
   rw [if_pos]
   ·simp
   ·refine ⟨?_, h0.1, h0.2, by simpa using hb⟩
    simp [hc]
  ·exact ⟨by simp [bE, hx, hv2], rfl⟩
 ·cases h1
theorem pm {α : Type} {enc : α → Dat} {xs : List α} (vs : List AV) {el m : Nat} {a : Bool} {zs : List AV} {parts : Array (Nat × Operand)} {L : List Item} (hw : am ops gs ⟨dst, .buildSlice t xs.length parts, ty, ps, af, g⟩ = some true)
  (he : cd C t = some el) (hz : szg C el = some (m, a)) (hy : (C.ty el).map (·.zero) = some zs) (h0 : 0 < m ∧ xs.length * m ≤ 16777216) (hZ : ∃ z, cw C el = some z ∧ z.cells.length = m ∧ (z.cells.map AV.d).all okC = true) (hc : ∀ v, (enc v).cells.length = m) (hk : ∀ v, ((enc v).cells.map AV.d).all okC = true)
  (h1 : (parts.toList.map fun p => (p.1, ev C ⟨gs, hom, nx⟩ p.2)) = (List.range' 0 vs.length).zip vs) (h2 : List.map (fun v => frz 4 hom v) vs = xs.map fun v => some (enc v, hom))
  (hf : bE C hom nx (nx + 1) (ev C ⟨gs, hom, nx⟩) (.buildSlice t xs.length parts) = .of [] [nx])
  (hH : HP hom nx L) (h : ∀ w id H' n', HP H' n' (.own w ⟨el, m⟩ (xs.map enc) :: L) → Off L [] id → nx ≤ id ∧ n' = id + 1 → aH w = [id] → EX C ops rest ⟨aK gs dst w, H', n'⟩ (.of [] [id] :: acc) pz R) : EX C ops (⟨dst, .buildSlice t xs.length parts, ty, ps, af, g⟩ :: rest) ⟨gs, hom, nx⟩ acc pz R := by
 have hp' : HP (upd hom nx (.own ⟨el, m⟩ (xs.map enc))) (nx + 1) (.own (.sl nx 0 xs.length) ⟨el, m⟩ (xs.map enc) :: L) :=
  hH.new (by simp [Item.ids, aH]) (.inr ⟨nx, [], by simp, by simp [upd]⟩)
 obtain ⟨zd, h3, h4, h5⟩ := hZ
 obtain ⟨yt, h6, rfl⟩ := Option.map_eq_some_iff.1 hy
 have h7 : yt.size = m := by have := (bp hz).1; simpa [bP, h6] using this
 have hl : vs.length = xs.length := by simpa using congrArg List.length h2
 have hpd : dy m hom (List.replicate xs.length zd) ((List.range' 0 vs.length).zip vs) = some (xs.map enc, hom) := by
  have := yd (sz := m) (H := hom) vs (xs.map enc) [] 0 (List.replicate xs.length zd) rfl (by simp [hl]) (by simp [hl]) (fun i v x hv hx => by
   have e1 : (List.map (fun v => frz 4 hom v) vs)[i]? = (xs.map fun v => some (enc v, hom))[i]? := by rw [h2]
   rw [List.getElem?_map, hv, List.getElem?_map] at e1
   rw [List.getElem?_map] at hx
   obtain ⟨e, he', rfl⟩ := Option.map_eq_some_iff.1 hx
   rw [he'] at e1
   exact ⟨Option.some.inj e1, hc e, hk e⟩)
  simpa using this
 refine bi (v := .sl nx 0 xs.length) (H1 := upd hom nx (.own ⟨el, m⟩ (xs.map enc))) (n1 := nx + 1) _ hw ?_ ⟨hf, rfl⟩ (h _ nx _ _ hp' ⟨fun it hi i hm => ⟨by simp, hH.lt it hi i hm⟩, by simp⟩ ⟨Nat.le_refl _, rfl⟩ rfl)
 rw [bW (fun _ _ _ h => by cases h)]
 simp only [act, he, h3, h6, h7]
 rw [if_pos ⟨h4, h5, h0.1, h0.2⟩]
 rw [show (parts.toList.map fun (x : Nat × Operand) => match x with | (i, x) => (i, ev C ⟨gs, hom, nx⟩ x)) = parts.toList.map fun p => (p.1, ev C ⟨gs, hom, nx⟩ p.2) from rfl, h1, hpd]
theorem aG {a b : List Nat} : ¬ fj (.of a []) (.of b []) := by rintro ⟨i, h⟩; simp [Ft.of] at h
theorem ao {f : Ft} : ¬ fj az f := by rintro ⟨i, h⟩; simp [az, Ft.of] at h
theorem aY {f : Ft} : ¬ fj f az := by rintro ⟨i, h⟩; simp [az, Ft.of] at h
theorem OF {a b c d : List Nat} (h1 : ∀ x ∈ b, x ∉ c) (h2 : ∀ x ∈ b, x ∉ d) (h3 : ∀ x ∈ a, x ∉ d) : ¬ fj (.of a b) (.of c d) := by
 rintro ⟨i, ⟨h, k | k⟩ | ⟨h, k⟩⟩
 ·exact h1 i h k
 ·exact h2 i h k
 ·exact h3 i h k
def tD (ids : List Nat) (lo hi : Nat) : Ft := ⟨fun i => i ∈ ids, fun i => i ∈ ids ∨ (lo ≤ i ∧ i < hi)⟩
theorem KH {ids c d : List Nat} {lo hi : Nat} (h1 : ∀ x ∈ ids, x ∉ c ∧ x ∉ d) (h2 : ∀ x ∈ c, ¬ (lo ≤ x ∧ x < hi)) (h3 : ∀ x ∈ d, ¬ (lo ≤ x ∧ x < hi)) : ¬ fj (tD ids lo hi) (.of c d) := by
 rintro ⟨i, ⟨h | h, k | k⟩ | ⟨h, k⟩⟩
 ·exact (h1 i h).1 k
 ·exact (h1 i h).2 k
 ·exact h2 i k h
 ·exact h3 i k h
 ·exact (h1 i h).2 k
theorem OG {ids c d : List Nat} {lo hi : Nat} (h1 : ∀ x ∈ ids, x ∉ c ∧ x ∉ d) (h2 : ∀ x ∈ c, ¬ (lo ≤ x ∧ x < hi)) (h3 : ∀ x ∈ d, ¬ (lo ≤ x ∧ x < hi)) : ¬ fj (.of c d) (tD ids lo hi) := by
 rintro ⟨i, ⟨h, k | k | k⟩ | ⟨h, k | k⟩⟩
 ·exact (h1 i k).2 h
 ·exact (h1 i k).2 h
 ·exact h3 i h k
 ·exact (h1 i k).1 h
 ·exact h2 i h k
theorem mn {b lo hi : Nat} {ids : List Nat} (h : b ∉ ids ∧ b < lo) : ¬ fj (.of [b] []) (tD ids lo hi) :=
 OG (fun x hx => ⟨fun hc => h.1 (by simp at hc; exact hc ▸ hx), by simp⟩) (fun x hx hc => by simp at hx; subst hx; omega) (fun x hx => by simp at hx)
theorem va {b lo hi : Nat} {ids : List Nat} (h : b ∉ ids ∧ b < lo) : ¬ fj (tD ids lo hi) (.of [b] []) :=
 KH (fun x hx => ⟨fun hc => h.1 (by simp at hc; exact hc ▸ hx), by simp⟩) (fun x hx hc => by simp at hx; subst hx; omega) (fun x hx => by simp at hx)
theorem cy {l : List (Nat × Nat)} {zs : List AV} {parts : Array (Nat × Operand)} {cs : List AV} (hz : (C.ty t).map (·.zero) = some zs) (hp : dc C t = some l)
  (hf : er dD (fun i => l[i]?) zs (parts.toList.map fun p => (p.1, ev C ⟨gs, hom, nx⟩ p.2)) = some cs) : opV C (ev C ⟨gs, hom, nx⟩) (.build t parts) hom nx = some (.agg cs, hom, nx) := by
 obtain ⟨yt, h1, rfl⟩ := Option.map_eq_some_iff.1 hz
 exact D2 (by rw [wk hp h1, hf]; rfl)
theorem Off.box {L : List Item} {ids : List Nat} {n k b : Nat} {cs : List AV} (h : Off L ids n) (hk : L[k]? = some (.box b cs)) : b ∉ ids ∧ b < n := h.1 _ (List.mem_of_getElem? hk) b (by simp [Item.ids])
theorem Off.own {L : List Item} {ids : List Nat} {n k : Nat} {w : AV} {z : Row} {xs : List Dat} (h : Off L ids n) (hk : L[k]? = some (.own w z xs)) : ∀ i ∈ aH w, i ∉ ids ∧ i < n := fun i hi => h.1 _ (List.mem_of_getElem? hk) i (by simpa [Item.ids] using hi)
theorem Off.imm {L : List Item} {ids : List Nat} {n k : Nat} {w : AV} {z : Row} {xs : List Dat} (h : Off L ids n) (hk : L[k]? = some (.imm w z xs)) : ∀ i ∈ aH w, i ∉ ids ∧ i < n := fun i hi => h.1 _ (List.mem_of_getElem? hk) i (by simpa [Item.ids] using hi)
theorem Mf {f : FuncId} {caps : Array Operand} : opV C (ev C ⟨gs, hom, nx⟩) (.makeFunc (.func f) #[] caps) hom nx = some (.fn f (caps.toList.map (ev C ⟨gs, hom, nx⟩)), hom, nx) := by
 rw [bW (fun _ _ _ h => by cases h)]; simp [act]
theorem K2 {α : Type} {enc : α → Dat} {l : List α} {gl n : Nat} (hz : szg C t = some (n, true)) (hg : C.glob gl = some (l.map enc)) (hl : l.length = n) : opV C (ev C ⟨gs, hom, nx⟩) (.load t (.global gl)) hom nx = some (.d (.agg (l.map enc)), hom, nx) := by
 have hev : ev C ⟨gs, hom, nx⟩ (.global gl) = .d (.ptr (l.map enc)) := by simp [ev, hg]
 refine vR hz hev ?_
 simp only [jO, List.length_map, hl, Nat.zero_add, Nat.le_refl, if_true, Option.bind_some, List.drop_zero, mkD]
 rw [List.take_of_length_le (by simp [hl])]
theorem FC {α : Type} {enc : α → Dat} {l : List α} {gl n : Nat} {q : Bool} (hw : am ops gs ⟨dst, .load t (.global gl), ty, ps, af, g⟩ = some true) (hz : szg C t = some (n, true)) (hg : C.glob gl = some (l.map enc)) (hl : l.length = n)
  (h : EW q C ops rest ⟨aK gs dst (.d (.agg (l.map enc))), hom, nx⟩ R) : EW q C ops (⟨dst, .load t (.global gl), ty, ps, af, g⟩ :: rest) ⟨gs, hom, nx⟩ R :=
 cm hw (K2 hz hg hl) (fun _ => ⟨rfl, rfl⟩) h
theorem DJ {α : Type} {enc : α → Dat} {l : List α} {n : Nat} {q : Bool} {el : TypeId} {i : Int} {kd : IntKind} {k : α → Option ρ} (hm : ((idx l i) >>= k) = some r) (hw : am ops gs ⟨dst, .index t x y, ty, ps, af, g⟩ = some true) (ha : iq C t = some (n, el)) (hz : szg C el = some (1, false))
  (hl : l.length = n) (hx : ev C ⟨gs, hom, nx⟩ x = .d (.agg (l.map enc))) (hy : ev C ⟨gs, hom, nx⟩ y = .d (.int kd i))
  (h : ∀ v, k v = some r → EW q C ops rest ⟨aK gs dst (.d (enc v)), hom, nx⟩ R) : EW q C ops (⟨dst, .index t x y, ty, ps, af, g⟩ :: rest) ⟨gs, hom, nx⟩ R := by
 obtain ⟨v, h1, h2⟩ := Option.bind_eq_some_iff.1 hm
 obtain ⟨h0, h3⟩ := lm h1
 have hlt : i.toNat < l.length := (List.getElem?_eq_some_iff.1 h3).1
 refine CY (v := .d (enc v)) hw ha hz (fun b hb => by rw [hx] at hb; cases hb) hy ⟨h0, by omega⟩ ?_ (h v h2)
 rw [hx]
 have e : ((l.map enc).drop i.toNat).take 1 = [enc v] := by
  rw [List.drop_eq_getElem_cons (by simpa using hlt)]
  have : (l.map enc)[i.toNat]? = some (enc v) := by simp [h3]
  rw [List.getElem?_eq_getElem (by simpa using hlt)] at this
  rw [Option.some.inj this]; rfl
 simp only [jP, jO, Nat.mul_one, List.length_map]
 rw [if_pos (by omega), e]
 rfl
theorem bX {l : List Item} {i id off m : Nat} {a : Bool} {cs new : List AV} (cs' : List AV) (hw : am ops gs ⟨dst, .store t x y, ty, ps, af, g⟩ = some true) (hz : szg C t = some (m, a)) (hH : HP hom nx l) (hi : l[i]? = some (.box id cs))
  (hx : ev C ⟨gs, hom, nx⟩ x = .pt id off) (hc : (ev C ⟨gs, hom, nx⟩ y).cells = new) (hl : new.length = m) (ha : new.all okC = true) (ho : off + m ≤ cs.length) (hn : cC cs off new = cs')
  (h : ∀ H', HP H' nx (l.set i (.box id cs')) → EX C ops rest ⟨aK gs dst .undef, H', nx⟩ (.of [id] [id] :: acc) pz R) : EX C ops (⟨dst, .store t x y, ty, ps, af, g⟩ :: rest) ⟨gs, hom, nx⟩ acc pz R := by
 subst hc hn
 obtain ⟨h1, h2⟩ := bp hz
 have h3 : hom id = .box cs := hH.get hi
 have hp : HP (upd hom id (.box (cC cs off (ev C ⟨gs, hom, nx⟩ y).cells))) nx (l.set i (.box id (cC cs off (ev C ⟨gs, hom, nx⟩ y).cells))) :=
  ((hH.pick i hi).write (a := .box id cs) (by simp [Item.live]) rfl (by simp [Item.ok, upd])).perm (nb _ _ _ _ hi)
 refine bi _ hw (D1 (H1 := upd hom id (.box (cC cs off (ev C ⟨gs, hom, nx⟩ y).cells))) ?_) ?_ (h _ hp)
 ·simp only [ke, h1, hx, h3]
  rw [if_pos ⟨hl, ha, ho⟩]
 ·exact ⟨by simp [bE, hx, aH], rfl⟩
theorem Ak {cs : List AV} (h : cs.all okC = true) : dD (.agg cs) = some cs := by simp only [dD, AV.cells, h, if_true]
theorem eH {w : AV} (h : okC w = true ∧ w.cells = [w]) : dD w = some [w] := by simp [dD, h.1, h.2]
end
end Go.Jv
namespace Go.Jv
theorem GZ (C : Cfg) : ∀ (f : FuncId) (vs : List AV) (H : Hs) (nx : Nat) (r : List AV × Hs × Nat), nW C f vs H nx = some r → nx ≤ r.2.2 ∧ ∀ id, id < nx → H id = .dead → r.2.1 id = .dead := by
 have key := aL.mutual_partial_correctness C (fun _ _ _ => True) (fun _ s r => Fwd s r.2) (fun _ _ s r => Fwd s r.2)
  (fun _ _ H nx r => nx ≤ r.2.2 ∧ ∀ id, id < nx → H id = .dead → r.2.1 id = .dead) (fun _ _ H nx r => nx ≤ r.2.2 ∧ ∀ id, id < nx → H id = .dead → r.2.1 id = .dead) (fun _ _ s r => Fwd s r)
  (fun _ _ H nx r => nx ≤ r.2.2 ∧ ∀ id, id < nx → H id = .dead → r.2.1 id = .dead)
  (fun _ _ _ _ _ _ => trivial)
  (fun dk jw fV hC hF hO c s r h => by
   split at h
   ·cases h; exact .refl _
   ·cases h; exact .refl _
   ·cases h; exact .refl _
   ·split at h
    ·split at h
     ·split at h
      ·obtain ⟨s', h1, h2⟩ := Option.bind_eq_some_iff.1 h
       cases h2; exact hO _ _ _ _ h1
      ·obtain ⟨⟨fs, s'⟩, h1, h2⟩ := Option.bind_eq_some_iff.1 h
       obtain ⟨_, _, h2⟩ := Option.bind_eq_some_iff.1 h2
       cases h2; exact hF _ _ _ _ h1
     ·cases h
    ·obtain ⟨s', h1, h2⟩ := Option.bind_eq_some_iff.1 h
     cases h2; exact hO _ _ _ _ h1
   ·obtain ⟨⟨e, s1⟩, h1, h2⟩ := Option.bind_eq_some_iff.1 h
    have := hC _ _ _ h1
    simp only at h2
    split at h2
    ·exact this.trans (hC _ _ _ h2)
    ·cases h2; exact this
   ·split at h
    ·exact hC _ _ _ h
    ·exact hC _ _ _ h
    ·cases h
   ·obtain ⟨⟨e, s1⟩, h1, h2⟩ := Option.bind_eq_some_iff.1 h
    have := hC _ _ _ h1
    simp only at h2
    split at h2
    ·split at h2 <;> (cases h2; exact this)
    ·cases h2; exact this
   ·obtain ⟨⟨e, s1⟩, h1, h2⟩ := Option.bind_eq_some_iff.1 h
    have := hC _ _ _ h1
    simp only at h2
    split at h2
    ·exact this.trans (hC _ _ _ h2)
    ·cases h2; exact this
   ·cases h)
  (fun jw opF hF hV ops l s r h => by
   split at h
   ·cases h; exact .refl _
   ·split at h
    ·cases h
    ·obtain ⟨⟨fs, s'⟩, h1, h2⟩ := Option.bind_eq_some_iff.1 h
     cases h2
     have := hF _ _ _ _ h1
     exact ⟨this.next, this.dead⟩
    ·obtain ⟨⟨v, H1, n1⟩, h1, h2⟩ := Option.bind_eq_some_iff.1 h
     obtain ⟨⟨fs, s'⟩, h3, h4⟩ := Option.bind_eq_some_iff.1 h2
     cases h4
     obtain ⟨a, b⟩ := hV _ _ _ _ _ h1
     have h5 := hF _ _ _ _ h3
     exact ⟨Nat.le_trans a h5.next, fun id hi hd => h5.dead id (Nat.lt_of_lt_of_le hi a) (b id hi hd)⟩)
  (fun aL nW _ hR e o H nx r h => by
   split at h
   ·split at h
    ·cases h
    ·split at h
     ·obtain ⟨_, hg, h⟩ := Option.bind_eq_some_iff.1 h
      have hlt := AL hg
      obtain ⟨⟨vs, H1, n1⟩, h1, h2⟩ := Option.bind_eq_some_iff.1 h
      cases h2
      obtain ⟨a, b⟩ := hR _ _ _ _ _ h1
      refine ⟨a, fun id hi hd => ?_⟩
      show iC _ nx n1 H H1 id = .dead
      unfold iC
      split
      ·refine b id hi ?_
       unfold restr; split
       ·exact hd
       ·rfl
      ·exact hd
     ·split at h
      ·cases h
      ·rename_i hf
       obtain ⟨ds, h1, h2⟩ := Option.bind_eq_some_iff.1 h
       cases h2
       exact ⟨Nat.le_refl _, fun id _ hd => sX 4 _ hf id hd⟩
     ·split at h
      ·cases h
      ·obtain ⟨ds, h1, h2⟩ := Option.bind_eq_some_iff.1 h
       split at h2 <;> cases h2
       exact ⟨Nat.le_refl _, fun id _ hd => hd⟩
   ·obtain ⟨x, H1, n1⟩ := r
    exact ⟨Aq h, Ar h⟩)
  (fun dk hC f vs H nx r h => by
   split at h
   ·cases h
   ·split at h
    ·cases h
    ·obtain ⟨⟨e, s⟩, h1, h2⟩ := Option.bind_eq_some_iff.1 h
     have := hC _ _ _ h1
     simp only at h2
     split at h2
     ·cases h2
     ·obtain ⟨rs, _, he⟩ := Option.map_eq_some_iff.1 h2
      cases he
      exact ⟨this.next, this.dead⟩)
  (fun fV opV hO hV ops l s r h => by
   split at h
   ·cases h; exact .refl _
   ·split at h
    ·cases h
    ·have := hO _ _ _ _ h
     exact ⟨this.next, this.dead⟩
    ·obtain ⟨⟨v, H1, n1⟩, h1, h2⟩ := Option.bind_eq_some_iff.1 h
     obtain ⟨a, b⟩ := hV _ _ _ _ _ h1
     have h5 := hO _ _ _ _ h2
     exact ⟨Nat.le_trans a h5.next, fun id hi hd => h5.dead id (Nat.lt_of_lt_of_le hi a) (b id hi hd)⟩)
  (fun aL nW _ hR e o H nx r h => by
   split at h
   ·split at h
    ·cases h
    ·split at h
     ·obtain ⟨⟨vs, H1, n1⟩, h1, h2⟩ := Option.bind_eq_some_iff.1 h
      cases h2
      exact hR _ _ _ _ _ h1
     ·split at h
      ·cases h
      ·rename_i hf
       obtain ⟨ds, h1, h2⟩ := Option.bind_eq_some_iff.1 h
       cases h2
       exact ⟨Nat.le_refl _, fun id _ hd => sX 4 _ hf id hd⟩
     ·split at h
      ·cases h
      ·obtain ⟨ds, h1, h2⟩ := Option.bind_eq_some_iff.1 h
       split at h2 <;> cases h2
       exact ⟨Nat.le_refl _, fun id _ hd => hd⟩
   ·obtain ⟨x, H1, n1⟩ := r
    exact ⟨Aq h, Ar h⟩)
 exact key.2.2.2.2.1
inductive MC (A : List Item) : AV → Prop where
 | d (x : Dat) : MC A (.d x)
 | nil : MC A .nil
 | undef : MC A .undef
 | own {j : Nat} {w : AV} {z : Row} {xs : List Dat} (h : A[j]? = some (.own w z xs)) : MC A w
 | imm {j : Nat} {w : AV} {z : Row} {xs : List Dat} (h : A[j]? = some (.imm w z xs)) : MC A w
 | pt {j b off : Nat} {cs : List AV} (h : A[j]? = some (.box b cs)) : MC A (.pt b off)
 | mp {j b : Nat} {es : List (Dat × Dat)} (h : A[j]? = some (.mp b es)) : MC A (.mp b)
 | agg {cs : List AV} (h : ∀ c ∈ cs, MC A c) : MC A (.agg cs)
 | fn {f : FuncId} {cs : List AV} (h : ∀ c ∈ cs, MC A c) : MC A (.fn f cs)
section
variable {A : List Item} {H : Hs} {n : Nat} {L : List Item} {vs : List AV}
theorem mcn : ∀ c ∈ ([] : List AV), MC A c := fun c h => by simp at h
theorem mcc {c : AV} {cs : List AV} (h : MC A c) (k : ∀ c ∈ cs, MC A c) : ∀ x ∈ c :: cs, MC A x := fun x hx => by
 rcases List.mem_cons.1 hx with rfl | hx
 ·exact h
 ·exact k x hx
def CB (A l : List Item) : Prop := ∀ b cs, Item.box b cs ∈ l → ∀ c ∈ cs, MC A c
theorem cbn : CB A [] := fun b cs h => by simp at h
theorem cbb {b : Nat} {cs : List AV} {l : List Item} (h : ∀ c ∈ cs, MC A c) (k : CB A l) : CB A (.box b cs :: l) := fun b' cs' hm => by
 rcases List.mem_cons.1 hm with e | hm
 ·cases e; exact h
 ·exact k b' cs' hm
theorem cbo {w : AV} {z : Row} {xs : List Dat} {l : List Item} (k : CB A l) : CB A (.own w z xs :: l) := fun b' cs' hm => by
 rcases List.mem_cons.1 hm with e | hm
 ·cases e
 ·exact k b' cs' hm
theorem Ib {i : Nat} {w : AV} (h : i ∈ aH w) : fT i w := by
 cases w with
 | sl id lo hi => simp [aH] at h; subst h; exact .sl ..
 | pt id off => simp [aH] at h; subst h; exact .pt ..
 | pe id a b => simp [aH] at h; subst h; exact .pe ..
 | mp id => simp [aH] at h; subst h; exact .mp
 | _ => simp [aH] at h
theorem MC.ids (hP : ∀ it ∈ A, it.ok H) {v : AV} (h : MC A v) : ∀ i, fT i v → ∃ it ∈ A, i ∈ it.ids := by
 induction h with
 | d x => intro i hm; cases hm
 | nil => intro i hm; cases hm
 | undef => intro i hm; cases hm
 | own h =>
  intro i hm
  have hi := List.mem_of_getElem? h
  refine ⟨_, hi, ?_⟩
  rcases hP _ hi with ⟨rfl, _⟩ | ⟨k, ys, rfl, _⟩
  ·cases hm
  ·cases hm; simp [Item.ids, aH]
 | imm h =>
  intro i hm
  have hi := List.mem_of_getElem? h
  refine ⟨_, hi, ?_⟩
  rcases hP _ hi with ⟨rfl, _⟩ | ⟨k, lo, zs, rfl, _⟩
  ·cases hm
  ·cases hm; simp [Item.ids, aH]
 | pt h => intro i hm; cases hm; exact ⟨_, List.mem_of_getElem? h, by simp [Item.ids]⟩
 | mp h => intro i hm; cases hm; exact ⟨_, List.mem_of_getElem? h, by simp [Item.ids]⟩
 | agg h ih => intro i hm; cases hm with | agg _ c hc hm => exact ih c hc i hm
 | fn h ih => intro i hm; cases hm with | fn _ _ c hc hm => exact ih c hc i hm
def jr (H : Hs) (vs : List AV) (it : Item) : Prop := ∀ i ∈ it.ids, aX H vs i
def uu (it : Item) (v : AV) : Prop := ∀ i ∈ it.ids, fT i v
theorem dI {w : AV} {z : Row} {xs : List Dat} : uu (.own w z xs) w := fun _ h => Ib h
theorem dl {b off : Nat} {cs : List AV} : uu (.box b cs) (.pt b off) := fun i h => by simp [Item.ids] at h; subst h; exact .pt off
theorem xe {it : Item} {cs : List AV} (q : Nat) {c : AV} (h : cs[q]? = some c) (k : uu it c) : uu it (.agg cs) := fun i hi => .agg cs c (List.mem_of_getElem? h) (k i hi)
theorem cc {it : Item} (q : Nat) {v : AV} (h : vs[q]? = some v) (k : uu it v) : jr H vs it := fun i hi => .arg v (List.mem_of_getElem? h) (k i hi)
theorem fm {it : Item} {b : Nat} {cs : List AV} (j : Nat) (hP : HP H n L) (hj : L[j]? = some (.box b cs)) (hb : jr H vs (.box b cs)) (q : Nat) {c : AV} (h : cs[q]? = some c) (k : uu it c) : jr H vs it := fun i hi =>
 .box b cs c (hb b (by simp [Item.ids])) (hP.get hj) (List.mem_of_getElem? h) (k i hi)
theorem uv {z : Row} {xs : List Dat} : jr H vs (.own .nil z xs) := fun i hi => by simp [Item.ids, aH] at hi
theorem rcn : ∀ it ∈ ([] : List Item), jr H vs it := fun c h => by simp at h
theorem rcc {it : Item} {l : List Item} (h : jr H vs it) (k : ∀ it ∈ l, jr H vs it) : ∀ x ∈ it :: l, jr H vs x := fun x hx => by
 rcases List.mem_cons.1 hx with rfl | hx
 ·exact h
 ·exact k x hx
theorem Item.ok_eq {it : Item} {H' : Hs} (h : it.ok H) (hi : ∀ i ∈ it.ids, H' i = H i) : it.ok H' := by
 cases it with
 | own v z xs =>
  rcases h with h1 | ⟨k, ys, rfl, h2⟩
  ·exact .inl h1
  ·exact .inr ⟨k, ys, rfl, (hi k (by simp [Item.ids, aH])).trans h2⟩
 | box b cs => exact (hi b (by simp [Item.ids])).trans h
 | mp b es => exact (hi b (by simp [Item.ids])).trans h
 | imm v z xs =>
  rcases h with h1 | ⟨k, lo, zs, rfl, h2, h3⟩
  ·exact .inl h1
  ·exact .inr ⟨k, lo, zs, rfl, (hi k (by simp [Item.ids, aH])).trans h2, h3⟩
theorem Item.ok_alive {it : Item} (h : it.ok H) : ∀ i ∈ it.ids, H i ≠ .dead := by
 intro i hi hd
 cases it with
 | own v z xs =>
  rcases h with ⟨rfl, _⟩ | ⟨k, ys, rfl, h2⟩
  ·simp [Item.ids, aH] at hi
  ·simp [Item.ids, aH] at hi; subst hi; rw [hd] at h2; cases h2
 | box b cs =>
  simp [Item.ids] at hi; subst hi
  rw [Item.ok, hd] at h; cases h
 | mp b es =>
  simp [Item.ids] at hi; subst hi
  rw [Item.ok, hd] at h; cases h
 | imm v z xs =>
  rcases h with ⟨rfl, _⟩ | ⟨k, lo, zs, rfl, h2, _⟩
  ·simp [Item.ids, aH] at hi
  ·simp [Item.ids, aH] at hi; subst hi; rw [hd] at h2; cases h2
theorem Item.ids_one {it : Item} {H : Hs} (h : it.ok H) {i j : Nat} (hi : i ∈ it.ids) (hj : j ∈ it.ids) : i = j := by
 cases it with
 | own v z xs =>
  rcases h with ⟨rfl, _⟩ | ⟨k, ys, rfl, _⟩ <;> simp [Item.ids, aH] at hi hj
  rw [hi, hj]
 | box b cs => simp [Item.ids] at hi hj; rw [hi, hj]
 | mp b es => simp [Item.ids] at hi hj; rw [hi, hj]
 | imm v z xs =>
  rcases h with ⟨rfl, _⟩ | ⟨k, lo, zs, rfl, _⟩ <;> simp [Item.ids, aH] at hi hj
  rw [hi, hj]
theorem FZ {α β : Type} (f : α → List β) (p : α → Bool) (l : List α) : List.Sublist ((l.filter p).flatMap f) (l.flatMap f) := by
 induction l with
 | nil => exact .slnil
 | cons a l ih =>
  rw [List.filter_cons]
  split
  ·simp only [List.flatMap_cons]; exact (List.Sublist.refl _).append ih
  ·rw [List.flatMap_cons]; exact ih.trans (List.sublist_append_right _ _)
end
section
variable {C : Cfg} {gs : Nat → AV} {hom : Hs} {nx : Nat} {ops : Array Oper} {rest : List Oper} {R : St → Prop} {acc : List Ft} {pz : List (Nat × Nat)}
variable {dst : Option Tmp} {ty : TypeId} {ps : String} {af : Array Edge} {g : Option (Nat × Bool)} {ρ : Type} {r : ρ}
open Classical in
theorem Dh {f : FuncId} {vs : List AV} {A L : List Item} {P : List AV → List Item → Prop} (hP : HP hom nx (A ++ L)) (hv : ∀ v ∈ vs, MC A v) (hb : CB A A) (hre : ∀ it ∈ A, jr hom vs it)
  (hc : ∀ H n L', HP H n (A ++ L') → Raw C f vs H n (fun rs H' n' => ∃ As, P rs As ∧ HP H' n' (As ++ L'))) :
  (∀ i, aX hom vs i → ∃ it ∈ A, i ∈ it.ids) ∧ (∀ i, aX hom vs i → i < nx) ∧ ∃ rs H1 n1 As, nW C f vs (restr (aX hom vs) hom) nx = some (rs, H1, n1) ∧ nx ≤ n1 ∧ P rs As ∧ HP (iC (aX hom vs) nx n1 hom H1) n1 (As ++ L) := by
 have hok : ∀ it ∈ A, it.ok hom := fun it hi => hP.ok it (List.mem_append_left _ hi)
 have hA : ∀ i, aX hom vs i → ∃ it ∈ A, i ∈ it.ids := by
  refine aX.sub (X := fun i => ∃ it ∈ A, i ∈ it.ids) ?_ fun v hm i h => (hv v hm).ids hok i h
  rintro j cs c i ⟨it, hit, hj⟩ hbx hcm hm
  have hbi : it = .box j cs := by
   have h1 := hok it hit
   cases it with
   | own v z xs =>
    rcases h1 with ⟨rfl, _⟩ | ⟨k, ys, rfl, h2⟩ <;> simp [Item.ids, aH] at hj
    subst hj; rw [h2] at hbx; cases hbx
   | box b cs' =>
    simp [Item.ids] at hj; subst hj
    rw [Item.ok, hbx] at h1; cases h1; rfl
   | mp b es =>
    simp [Item.ids] at hj; subst hj
    rw [Item.ok, hbx] at h1; cases h1
   | imm v z xs =>
    rcases h1 with ⟨rfl, _⟩ | ⟨k, lo, zs, rfl, h2, _⟩ <;> simp [Item.ids, aH] at hj
    subst hj; rw [h2] at hbx; cases hbx
  subst hbi
  exact (hb j cs hit c hcm).ids hok i hm
 have hlt : ∀ i, aX hom vs i → i < nx := fun i hi => let ⟨it, h1, h2⟩ := hA i hi; hP.lt it (List.mem_append_left _ h1) i h2
 have rin : ∀ i, aX hom vs i → restr (aX hom vs) hom i = hom i := fun i hi => by simp [restr, hi]
 have rout : ∀ i, ¬ aX hom vs i → restr (aX hom vs) hom i = .dead := fun i hi => by simp [restr, hi]
 refine ⟨hA, hlt, ?_⟩
 let p : Item → Bool := fun it => decide (∃ i ∈ it.ids, aX hom vs i)
 have hin : ∀ it ∈ A ++ L, p it = true → ∀ i ∈ it.ids, aX hom vs i := by
  intro it hm hp i hi
  obtain ⟨j, hj, hl⟩ := of_decide_eq_true hp
  rw [Item.ids_one (hP.ok it hm) hi hj]; exact hl
 have hP1 : HP (restr (aX hom vs) hom) nx (A ++ L.filter p) := by
  refine ⟨?_, fun it hm => ?_, fun it hm i hi => ?_⟩
  ·refine List.Nodup.sublist ?_ hP.nd
   rw [List.flatMap_append, List.flatMap_append]
   exact (List.Sublist.refl _).append (FZ _ _ _)
  ·rcases List.mem_append.1 hm with hm | hm
   ·exact Item.ok_eq (hok it hm) fun i hi => rin i (hre it hm i hi)
   ·obtain ⟨h1, h2⟩ := List.mem_filter.1 hm
    exact Item.ok_eq (hP.ok it (List.mem_append_right _ h1)) fun i hi => rin i (hin it (List.mem_append_right _ h1) h2 i hi)
  ·rcases List.mem_append.1 hm with hm | hm
   ·exact hP.lt it (List.mem_append_left _ hm) i hi
   ·exact hP.lt it (List.mem_append_right _ (List.mem_filter.1 hm).1) i hi
 obtain ⟨rs, H1, n1, h1, As, hPA, hP2⟩ := hc _ nx _ hP1
 obtain ⟨hn, hd⟩ := GZ C _ _ _ _ _ h1
 simp only at hn hd
 have away : ∀ it ∈ L, p it = false → ∀ i ∈ it.ids, ¬ (aX hom vs i ∨ (nx ≤ i ∧ i < n1)) := by
  intro it hm hp i hi
  have hl := hP.lt it (List.mem_append_right _ hm) i hi
  rintro (h2 | h2)
  ·exact absurd (show p it = true from decide_eq_true ⟨i, hi, h2⟩) (by rw [hp]; simp)
  ·omega
 have near : ∀ it ∈ As ++ L.filter p, ∀ i ∈ it.ids, aX hom vs i ∨ (nx ≤ i ∧ i < n1) := by
  intro it hm i hi
  have ha := Item.ok_alive (hP2.ok it hm) i hi
  by_cases h2 : aX hom vs i
  ·exact .inl h2
  ·refine .inr ⟨?_, hP2.lt it hm i hi⟩
   refine Nat.le_of_not_lt fun h3 => ha (hd i h3 (rout i h2))
 refine ⟨rs, H1, n1, As, h1, hn, hPA, ?_, fun it hm => ?_, fun it hm i hi => ?_⟩
 ·rw [List.flatMap_append, List.nodup_append]
  have n2 := hP2.nd
  rw [List.flatMap_append, List.nodup_append] at n2
  have nL := hP.nd
  rw [List.flatMap_append, List.nodup_append] at nL
  refine ⟨n2.1, nL.2.1, ?_⟩
  rintro i hi j hj rfl
  obtain ⟨it, h2, h3⟩ := List.mem_flatMap.1 hj
  by_cases hp : p it = true
  ·exact n2.2.2 i hi i (List.mem_flatMap.2 ⟨it, List.mem_filter.2 ⟨h2, hp⟩, h3⟩) rfl
  ·obtain ⟨a, h4, h5⟩ := List.mem_flatMap.1 hi
   exact away it h2 (by simpa using hp) i (gp it i h3) (near a (List.mem_append_left _ h4) i (gp a i h5))
 ·rcases List.mem_append.1 hm with hm | hm
  ·exact Item.ok_eq (hP2.ok it (List.mem_append_left _ hm)) fun i hi => jM (near it (List.mem_append_left _ hm) i hi)
  ·by_cases hp : p it = true
   ·have hm' : it ∈ As ++ L.filter p := List.mem_append_right _ (List.mem_filter.2 ⟨hm, hp⟩)
    exact Item.ok_eq (hP2.ok it hm') fun i hi => jM (near it hm' i hi)
   ·exact Item.ok_eq (hP.ok it (List.mem_append_right _ hm)) fun i hi => kN (away it hm (by simpa using hp) i hi)
 ·rcases List.mem_append.1 hm with hm | hm
  ·exact hP2.lt it (List.mem_append_left _ hm) i hi
  ·exact Nat.lt_of_lt_of_le (hP.lt it (List.mem_append_right _ hm) i hi) hn
structure tU (A L : List Item) (nx : Nat) : Prop where
 off : ∀ it ∈ L, ∀ i ∈ it.live, i ∉ A.flatMap Item.ids ∧ i < nx
 lt : ∀ i ∈ A.flatMap Item.ids, i < nx
theorem CA {H : Hs} {A L : List Item} (hP : HP H nx (A ++ L)) : tU A L nx := by
 refine ⟨fun it hm i hi => ⟨fun hc => ?_, hP.lt it (List.mem_append_right _ hm) i (gp it i hi)⟩, fun i hi => ?_⟩
 ·obtain ⟨a, h1, h2⟩ := List.mem_flatMap.1 hc
  obtain ⟨L1, L2, rfl⟩ := List.append_of_mem hm
  have hp : (A ++ (L1 ++ it :: L2)).Perm (it :: (A ++ (L1 ++ L2))) := by
   rw [← List.append_assoc, ← List.append_assoc]
   exact List.perm_middle
  exact (hP.perm hp).apart hi a (List.mem_append_left _ h1) h2
 ·obtain ⟨a, h1, h2⟩ := List.mem_flatMap.1 hi
  exact hP.lt a (List.mem_append_left _ h1) i h2
theorem tU.box {A L : List Item} {n k b : Nat} {cs : List AV} (h : tU A L n) (hk : L[k]? = some (.box b cs)) : b ∉ A.flatMap Item.ids ∧ b < n := h.off _ (List.mem_of_getElem? hk) b (by simp [Item.live])
theorem tU.own {A L : List Item} {n k : Nat} {w : AV} {z : Row} {xs : List Dat} (h : tU A L n) (hk : L[k]? = some (.own w z xs)) : ∀ i ∈ aH w, i ∉ A.flatMap Item.ids ∧ i < n := fun i hi => h.off _ (List.mem_of_getElem? hk) i (by simpa [Item.live] using hi)
theorem tU.imm {A L : List Item} {n k : Nat} {w : AV} {z : Row} {xs : List Dat} (_ : tU A L n) (_ : L[k]? = some (.imm w z xs)) : True := trivial
theorem vl {β : Type} {m : Option β} {k : β → Option ρ} {fv : Operand} {f : FuncId} {caps : List AV} {args : Array Operand} {ts : Array TypeId} (vs : List AV) {A L : List Item} {P : β → List AV → List Item → Prop} (hm : (m >>= k) = some r)
  (hw : am ops gs ⟨dst, .call ⟨.value fv, args, ts⟩, ty, ps, af, g⟩ = some true) (hfn : gP (ev C ⟨gs, hom, nx⟩ fv) = some (f, caps)) (hs : C.sig f = .raw) (ha : args.toList.map (ev C ⟨gs, hom, nx⟩) ++ caps = vs)
  (hP : HP hom nx (A ++ L)) (hv : ∀ v ∈ vs, MC A v) (hb : CB A A) (hre : ∀ it ∈ A, jr hom vs it)
  (hc : ∀ y, m = some y → ∀ H n L', HP H n (A ++ L') → Raw C f vs H n (fun rs H' n' => ∃ As, P y rs As ∧ HP H' n' (As ++ L')))
  (h : ∀ y rs As H' n', k y = some r → P y rs As → HP H' n' (As ++ L) → tU A L nx → nx ≤ n' → EX C ops rest ⟨aK gs dst (dv rs), H', n'⟩ (tD (A.flatMap Item.ids) nx n' :: acc) pz R) :
  EX C ops (⟨dst, .call ⟨.value fv, args, ts⟩, ty, ps, af, g⟩ :: rest) ⟨gs, hom, nx⟩ acc pz R := by
 obtain ⟨y, h1, h2⟩ := Option.bind_eq_some_iff.1 hm
 obtain ⟨hA, hlt, rs, H1, n1, As, h3, hn, h4, h5⟩ := Dh hP hv hb hre (hc y h1)
 subst ha
 refine zk (v := dv rs) (H1 := iC (aX hom (args.toList.map (ev C ⟨gs, hom, nx⟩) ++ caps)) nx n1 hom H1) (n1 := n1) _ hw ?_ ?_ (h y rs As _ n1 h2 h4 h5 (CA hP) hn)
 ·rw [opF]
  simp only [hfn, hs]
  rw [vQ hlt]
  simp [h3]
 ·have hft : bE C hom nx n1 (ev C ⟨gs, hom, nx⟩) (.call ⟨.value fv, args, ts⟩) = ⟨aX hom (args.toList.map (ev C ⟨gs, hom, nx⟩) ++ caps), fun i => aX hom (args.toList.map (ev C ⟨gs, hom, nx⟩) ++ caps) i ∨ (nx ≤ i ∧ i < n1)⟩ := by simp only [bE, hfn, hs]
  show LeF (bE C hom nx n1 _ (.call ⟨.value fv, args, ts⟩)) _
  rw [hft]
  have hin : ∀ i, aX hom (args.toList.map (ev C ⟨gs, hom, nx⟩) ++ caps) i → i ∈ A.flatMap Item.ids := fun i hi => let ⟨it, h6, h7⟩ := hA i hi; List.mem_flatMap.2 ⟨it, h6, h7⟩
  exact ⟨hin, fun i hi => hi.imp (hin i) id⟩
end
end Go.Jv
