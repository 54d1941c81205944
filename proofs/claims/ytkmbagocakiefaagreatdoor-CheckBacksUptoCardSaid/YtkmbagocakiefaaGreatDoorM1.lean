/- Steps of a walk beside a plain function: operations. -/
import Derived.Test.YtkmbagocakiefaaGreatDoorL9
namespace Go.Jv
def EW (q : Bool) (C : Cfg) (ops : Array Oper) (l : List Oper) (s : St) (R : St → Prop) : Prop :=
 match q with
 | false => EO C ops l s R
 | true => ∃ fs s', jw C ops l s = some (fs, s') ∧ (∀ f ∈ fs, f.md = az.md) ∧ R s' ∧ fV C ops l s = some s'
section
variable {C : Cfg} {s : St} {gs : Nat → AV} {hom : Hs} {nx : Nat} {q : Bool} {ops : Array Oper} {rest : List Oper} {R : St → Prop} {Q : Ex → St → Prop}
theorem Wn (h : R s) : EW q C ops [] s R := by
 cases q
 ·exact Ox h
 ·exact ⟨[], s, by rw [jw], by simp, h, by rw [fV]⟩
def lp : Op → Bool
 | .call c => (match c.callee with | .value _ => true | _ => false)
 | _ => false
theorem xP {e : Operand → AV} {o : Op} {H : Hs} {n : Nat} (h : lp o = false) : opF C e o H n = opV C e o H n := by
 have hno : ∀ fv args ts, o = .call ⟨.value fv, args, ts⟩ → False := by
  rintro fv args ts rfl
  simp [lp] at h
 rw [opF, opV] <;> exact hno
theorem Iy {e : Operand → AV} {o : Op} (h : lp o = false) : jv C e o = none := by
 cases o with
 | call c =>
  obtain ⟨callee, args, ats⟩ := c
  cases callee with
  | value fv => simp [lp] at h
  | _ => rfl
 | _ => rfl
theorem F8 {e : Operand → AV} {fv : Operand} {args : Array Operand} {ts : Array TypeId} {H : Hs} {n : Nat} {f : FuncId} {caps : List AV} (h : gP (e fv) = some (f, caps)) (hs : C.sig f ≠ .raw) :
  opF C e (.call ⟨.value fv, args, ts⟩) H n = opV C e (.call ⟨.value fv, args, ts⟩) H n := by
 rw [opF, opV]
 simp only [h]
 split
 ·rename_i h1; exact absurd h1 hs
 ·rfl
 ·rfl
theorem Ke {o : Oper} {v : AV} {H1 : Hs} {n1 : Nat} (hw : am ops gs o = some true) (ho : opV C (ev C ⟨gs, hom, nx⟩) o.op hom nx = some (v, H1, n1)) (hn : q = true → opF C (ev C ⟨gs, hom, nx⟩) o.op hom nx = opV C (ev C ⟨gs, hom, nx⟩) o.op hom nx)
  (hf : q = true → (jp C hom nx n1 H1 (ev C ⟨gs, hom, nx⟩) o.op).md = az.md) (h : EW q C ops rest ⟨aK gs o.dst v, H1, n1⟩ R) : EW q C ops (o :: rest) ⟨gs, hom, nx⟩ R := by
 cases q
 ·obtain ⟨s', h1, h2⟩ := h
  exact ⟨s', by rw [pG, hw]; simp only [ho]; exact h1, h2⟩
 ·obtain ⟨fs, s', h1, h2, h3, h4⟩ := h
  refine ⟨jp C hom nx n1 H1 (ev C ⟨gs, hom, nx⟩) o.op :: fs, s', ?_, ?_, h3, by rw [pG, hw]; simp only [ho]; exact h4⟩
  ·rw [jw, hw]; simp only [hn rfl, ho]; simp [h1]
  ·intro f hm
   rcases List.mem_cons.1 hm with rfl | hm
   ·exact hf rfl
   ·exact h2 f hm
theorem cm {o : Oper} {v : AV} {H1 : Hs} {n1 : Nat} (hw : am ops gs o = some true) (ho : opV C (ev C ⟨gs, hom, nx⟩) o.op hom nx = some (v, H1, n1))
  (hf : q = true → (bE C hom nx n1 (ev C ⟨gs, hom, nx⟩) o.op).md = az.md ∧ lp o.op = false) (h : EW q C ops rest ⟨aK gs o.dst v, H1, n1⟩ R) : EW q C ops (o :: rest) ⟨gs, hom, nx⟩ R :=
 Ke hw ho (fun hq => xP (hf hq).2) (fun hq => by rw [rD (Iy (hf hq).2)]; exact (hf hq).1) h
theorem Wk {o : Oper} (hw : am ops gs o = some false) (h : EW q C ops rest ⟨aK gs o.dst .undef, hom, nx⟩ R) : EW q C ops (o :: rest) ⟨gs, hom, nx⟩ R := by
 cases q
 ·obtain ⟨s', h1, h2⟩ := h
  exact ⟨s', by rw [pG, hw]; exact h1, h2⟩
 ·obtain ⟨fs, s', h1, h2, h3, h4⟩ := h
  refine ⟨az :: fs, s', ?_, ?_, h3, by rw [pG, hw]; exact h4⟩
  ·rw [jw, hw]; simp [h1]
  ·intro f hm
   rcases List.mem_cons.1 hm with rfl | hm
   ·rfl
   ·exact h2 f hm
theorem Jz {i : Nat} (h : EW false C ops ops.toList s (fun s' => Q .normal s')) : EC C (.region i ops false) s Q := JT h
theorem F9 {fs : List Ft} (h : ∀ f ∈ fs, f.md = az.md) (ps : List (Nat × Nat)) : gL fs ps := by
 rintro p _ f g hf hg ⟨i, hc⟩
 have a := h _ (List.mem_of_getElem? hf)
 have b := h _ (List.mem_of_getElem? hg)
 simp [a, b, az, Ft.of] at hc
theorem Lo {i : Nat} (hd : jQ ops = true) (h : EW true C ops ops.toList s (fun s' => Q .normal s')) : EC C (.region i ops true) s Q := by
 obtain ⟨fs, s', h1, h2, h3, h4⟩ := h
 by_cases hu : (iU ops.toList).isEmpty = true
 ·exact M4 hd hu ⟨s', h4, h3⟩
 ·refine ⟨(.normal, s'), ?_, h3⟩
  rw [dk]
  simp only [hd, if_true, if_neg hu, h1]
  show (ml (gL fs (iU ops.toList))).bind (fun _ => some (Ex.normal, s')) = _
  rw [vQ (F9 h2 _)]; rfl
theorem Pr {c : Code} {p : Way} {i : Nat} (hc : sub c p = .region i ops false) (h : EW false C ops ops.toList s (fun s' => con C c Q p .normal s')) : PAt C c p s Q := by
 simp only [PAt, hc]; exact Jz h
theorem cB {c : Code} {p : Way} {i : Nat} (hc : sub c p = .region i ops true) (hd : jQ ops = true) (h : EW true C ops ops.toList s (fun s' => con C c Q p .normal s')) : PAt C c p s Q := by
 simp only [PAt, hc]; exact Lo hd h
variable {dst : Option Tmp} {ty : TypeId} {ps : String} {af : Array Edge} {g : Option (Nat × Bool)} {t u : TypeId} {x y z : Operand} {v : AV}
theorem Wm {d : Dat} (hw : am ops gs ⟨dst, .move x, ty, ps, af, g⟩ = some true) (hx : ev C ⟨gs, hom, nx⟩ x = .d d) (h : EW q C ops rest ⟨aK gs dst (.d d), hom, nx⟩ R) : EW q C ops (⟨dst, .move x, ty, ps, af, g⟩ :: rest) ⟨gs, hom, nx⟩ R :=
 cm hw (hx ▸ uU) (fun _ => ⟨rfl, rfl⟩) h
theorem Wa {d : Dat} (hw : am ops gs ⟨dst, .assign x, ty, ps, af, g⟩ = some true) (hx : ev C ⟨gs, hom, nx⟩ x = .d d) (h : EW q C ops rest ⟨aK gs dst (.d d), hom, nx⟩ R) : EW q C ops (⟨dst, .assign x, ty, ps, af, g⟩ :: rest) ⟨gs, hom, nx⟩ R :=
 cm hw (hx ▸ jS) (fun _ => ⟨rfl, rfl⟩) h
theorem Fa (v : AV) (hw : am ops gs ⟨dst, .move x, ty, ps, af, g⟩ = some true) (hx : ev C ⟨gs, hom, nx⟩ x = v) (h : EW q C ops rest ⟨aK gs dst v, hom, nx⟩ R) : EW q C ops (⟨dst, .move x, ty, ps, af, g⟩ :: rest) ⟨gs, hom, nx⟩ R :=
 cm hw (hx ▸ uU) (fun _ => ⟨rfl, rfl⟩) h
theorem BL (v : AV) (hw : am ops gs ⟨dst, .assign x, ty, ps, af, g⟩ = some true) (hx : ev C ⟨gs, hom, nx⟩ x = v) (h : EW q C ops rest ⟨aK gs dst v, hom, nx⟩ R) : EW q C ops (⟨dst, .assign x, ty, ps, af, g⟩ :: rest) ⟨gs, hom, nx⟩ R :=
 cm hw (hx ▸ jS) (fun _ => ⟨rfl, rfl⟩) h
theorem Wt {d : Dat} (hw : am ops gs ⟨dst, .pick x y z, ty, ps, af, g⟩ = some true) (hc : ev C ⟨gs, hom, nx⟩ x = .d (.bool true)) (hx : ev C ⟨gs, hom, nx⟩ y = .d d) (h : EW q C ops rest ⟨aK gs dst (.d d), hom, nx⟩ R) : EW q C ops (⟨dst, .pick x y z, ty, ps, af, g⟩ :: rest) ⟨gs, hom, nx⟩ R :=
 cm hw (hx ▸ JX hc) (fun _ => ⟨rfl, rfl⟩) h
theorem Wf {d : Dat} (hw : am ops gs ⟨dst, .pick x y z, ty, ps, af, g⟩ = some true) (hc : ev C ⟨gs, hom, nx⟩ x = .d (.bool false)) (hx : ev C ⟨gs, hom, nx⟩ z = .d d) (h : EW q C ops rest ⟨aK gs dst (.d d), hom, nx⟩ R) : EW q C ops (⟨dst, .pick x y z, ty, ps, af, g⟩ :: rest) ⟨gs, hom, nx⟩ R :=
 cm hw (hx ▸ JY hc) (fun _ => ⟨rfl, rfl⟩) h
theorem Wb {op : BinOp} {r : Dat} (hw : am ops gs ⟨dst, .binOp op t x y u, ty, ps, af, g⟩ = some true) (hr : qA C op t (ev C ⟨gs, hom, nx⟩ x) (ev C ⟨gs, hom, nx⟩ y) = some r)
  (h : EW q C ops rest ⟨aK gs dst (.d r), hom, nx⟩ R) : EW q C ops (⟨dst, .binOp op t x y u, ty, ps, af, g⟩ :: rest) ⟨gs, hom, nx⟩ R :=
 cm hw (C8 hr) (fun _ => ⟨rfl, rfl⟩) h
theorem Wc {ρ : Type} {A B : Option ρ} {r : ρ} {op : BinOp} {p : Prop} [Decidable p] (hm : (if p then A else B) = some r) (hw : am ops gs ⟨dst, .binOp op t x y u, ty, ps, af, g⟩ = some true)
  (hr : qA C op t (ev C ⟨gs, hom, nx⟩ x) (ev C ⟨gs, hom, nx⟩ y) = some (.bool (decide p)))
  (ht : p → A = some r → EW q C ops rest ⟨aK gs dst (.d (.bool true)), hom, nx⟩ R) (hf : ¬ p → B = some r → EW q C ops rest ⟨aK gs dst (.d (.bool false)), hom, nx⟩ R) :
  EW q C ops (⟨dst, .binOp op t x y u, ty, ps, af, g⟩ :: rest) ⟨gs, hom, nx⟩ R := by
 by_cases hp : p
 ·exact cm hw (Ew hr (decide_eq_true hp)) (fun _ => ⟨rfl, rfl⟩) (ht hp (by rwa [if_pos hp] at hm))
 ·exact cm hw (Ew hr (decide_eq_false hp)) (fun _ => ⟨rfl, rfl⟩) (hf hp (by rwa [if_neg hp] at hm))
theorem Wd {ρ : Type} {A B : Option ρ} {r : ρ} {op : BinOp} {p : Prop} [Decidable p] (hm : (if p then A else B) = some r) (hw : am ops gs ⟨dst, .binOp op t x y u, ty, ps, af, g⟩ = some true)
  (hr : qA C op t (ev C ⟨gs, hom, nx⟩ x) (ev C ⟨gs, hom, nx⟩ y) = some (.bool (!decide p)))
  (ht : p → A = some r → EW q C ops rest ⟨aK gs dst (.d (.bool false)), hom, nx⟩ R) (hf : ¬ p → B = some r → EW q C ops rest ⟨aK gs dst (.d (.bool true)), hom, nx⟩ R) :
  EW q C ops (⟨dst, .binOp op t x y u, ty, ps, af, g⟩ :: rest) ⟨gs, hom, nx⟩ R := by
 by_cases hp : p
 ·exact cm hw (Ew hr (by simp [hp])) (fun _ => ⟨rfl, rfl⟩) (ht hp (by rwa [if_pos hp] at hm))
 ·exact cm hw (Ew hr (by simp [hp])) (fun _ => ⟨rfl, rfl⟩) (hf hp (by rwa [if_neg hp] at hm))
theorem bA {ρ : Type} {A B : Option ρ} {r : ρ} {o : Oper} {b : Bool} {v : AV} {H1 : Hs} {n1 : Nat} (hm : (if b = true then A else B) = some r) (hw : am ops gs o = some true)
  (ho : opV C (ev C ⟨gs, hom, nx⟩) o.op hom nx = some (v, H1, n1)) (hv : v = .d (.bool b)) (hq : q = true → (bE C hom nx n1 (ev C ⟨gs, hom, nx⟩) o.op).md = az.md ∧ lp o.op = false)
  (ht : b = true → A = some r → EW q C ops rest ⟨aK gs o.dst (.d (.bool true)), H1, n1⟩ R) (hf : b = false → B = some r → EW q C ops rest ⟨aK gs o.dst (.d (.bool false)), H1, n1⟩ R) :
  EW q C ops (o :: rest) ⟨gs, hom, nx⟩ R := by
 cases b
 ·exact cm hw (hv ▸ ho) hq (hf rfl (by simpa using hm))
 ·exact cm hw (hv ▸ ho) hq (ht rfl (by simpa using hm))
theorem ba {op : UnOp} {d r : Dat} (hw : am ops gs ⟨dst, .unOp op t x, ty, ps, af, g⟩ = some true) (hx : ev C ⟨gs, hom, nx⟩ x = .d d) (hr : unD op d = some r)
  (h : EW q C ops rest ⟨aK gs dst (.d r), hom, nx⟩ R) : EW q C ops (⟨dst, .unOp op t x, ty, ps, af, g⟩ :: rest) ⟨gs, hom, nx⟩ R :=
 cm hw (kC hx hr) (fun _ => ⟨rfl, rfl⟩) h
theorem Lp (hw : am ops gs ⟨dst, .convert t u x, ty, ps, af, g⟩ = some true) (hr : vF C t u (ev C ⟨gs, hom, nx⟩ x) = some v)
  (h : EW q C ops rest ⟨aK gs dst v, hom, nx⟩ R) : EW q C ops (⟨dst, .convert t u x, ty, ps, af, g⟩ :: rest) ⟨gs, hom, nx⟩ R :=
 cm hw (mm hr) (fun _ => ⟨rfl, rfl⟩) h
theorem CP {f off m : Nat} {a : Bool} (hw : am ops gs ⟨dst, .fieldAddr t x f, ty, ps, af, g⟩ = some true) (hf : fo C t f = some (off, m, a)) (hm : m ≠ 0) (hr : vE (ev C ⟨gs, hom, nx⟩ x) off = some v)
  (h : EW q C ops rest ⟨aK gs dst v, hom, nx⟩ R) : EW q C ops (⟨dst, .fieldAddr t x f, ty, ps, af, g⟩ :: rest) ⟨gs, hom, nx⟩ R :=
 cm hw (D3 hf hm hr) (fun _ => ⟨rfl, rfl⟩) h
theorem Dv {i : Nat} {vs : List AV} (hw : am ops gs ⟨dst, .extract x i, ty, ps, af, g⟩ = some true) (hx : ev C ⟨gs, hom, nx⟩ x = .tup vs) (hr : vs[i]? = some v)
  (h : EW q C ops rest ⟨aK gs dst v, hom, nx⟩ R) : EW q C ops (⟨dst, .extract x i, ty, ps, af, g⟩ :: rest) ⟨gs, hom, nx⟩ R :=
 cm hw (fN hx hr) (fun _ => ⟨rfl, rfl⟩) h
theorem Ae {id o : Nat} (hw : am ops gs ⟨dst, .nilCheck x, ty, ps, af, g⟩ = some true) (hx : ev C ⟨gs, hom, nx⟩ x = .pt id o)
  (h : EW q C ops rest ⟨aK gs dst (.pt id o), hom, nx⟩ R) : EW q C ops (⟨dst, .nilCheck x, ty, ps, af, g⟩ :: rest) ⟨gs, hom, nx⟩ R :=
 cm hw (dm hx) (fun _ => ⟨rfl, rfl⟩) h
def szg (C : Cfg) (t : TypeId) : Option (Nat × Bool) := match bP C t, lP C t with | some n, some g => some (n, g) | _, _ => none
theorem bp {n : Nat} {a : Bool} (h : szg C t = some (n, a)) : bP C t = some n ∧ lP C t = some a := by
 unfold szg at h
 split at h
 ·rename_i h1 h2; cases h; exact ⟨h1, h2⟩
 ·cases h
theorem aR {m : Nat} {a : Bool} {cs : List Dat} {d : Dat} (hw : am ops gs ⟨dst, .load t x, ty, ps, af, g⟩ = some true) (hz : szg C t = some (m, a)) (hx : ev C ⟨gs, hom, nx⟩ x = .d (.ptr cs)) (hr : (jO cs 0 m).bind (mkD a) = some d)
  (h : EW q C ops rest ⟨aK gs dst (.d d), hom, nx⟩ R) : EW q C ops (⟨dst, .load t x, ty, ps, af, g⟩ :: rest) ⟨gs, hom, nx⟩ R := by
 obtain ⟨h1, h2⟩ := bp hz
 exact cm hw (uV (by simp [iQ, h1, h2, hx, hr])) (fun _ => ⟨rfl, rfl⟩) h
theorem aF {l : List Item} {i id off m : Nat} {a : Bool} {cs : List AV} (hw : am ops gs ⟨dst, .load t x, ty, ps, af, g⟩ = some true) (hz : szg C t = some (m, a)) (hH : HP hom nx l) (hi : l[i]? = some (.box id cs))
  (hx : ev C ⟨gs, hom, nx⟩ x = .pt id off) (hr : (gq cs off m).bind (mkA a) = some v)
  (h : EW q C ops rest ⟨aK gs dst v, hom, nx⟩ R) : EW q C ops (⟨dst, .load t x, ty, ps, af, g⟩ :: rest) ⟨gs, hom, nx⟩ R := by
 obtain ⟨h1, h2⟩ := bp hz
 have h3 : hom id = .box cs := hH.get hi
 exact cm hw (uV (by simp [iQ, h1, h2, hx, h3, hr])) (fun _ => ⟨rfl, rfl⟩) h
theorem KN {l : List Item} {yt : Ty} (hw : am ops gs ⟨dst, .alloc t, ty, ps, af, g⟩ = some true) (hy : C.ty t = some yt) (hH : HP hom nx l)
  (h : ∀ id H' n', HP H' n' (.box id yt.zero :: l) → EW false C ops rest ⟨aK gs dst (.pt id 0), H', n'⟩ R) : EW false C ops (⟨dst, .alloc t, ty, ps, af, g⟩ :: rest) ⟨gs, hom, nx⟩ R :=
 cm hw (GN hy) (by simp) (h _ _ _ (hH.new rfl (by simp [Item.ok, upd])))
theorem N8 {e : Operand → AV} {H : Hs} {n m : Nat} (hz : bP C t = some m) (hl : (e x).cells.length = m) (ha : (e x).cells.all okC = true) : opV C e (.box t x) H n = some (.pt n 0, upd H n (.box (e x).cells), n + 1) := by
 rw [bW (fun _ _ _ h => by cases h)]; simp only [act, hz, Option.bind_some]; rw [if_pos ⟨hl, ha⟩]
theorem cu {l : List Item} {m : Nat} {a : Bool} {cs : List AV} (hw : am ops gs ⟨dst, .box t x, ty, ps, af, g⟩ = some true) (hz : szg C t = some (m, a)) (hc : (ev C ⟨gs, hom, nx⟩ x).cells = cs) (hl : cs.length = m) (ha : cs.all okC = true) (hH : HP hom nx l)
  (h : ∀ id H' n', HP H' n' (.box id cs :: l) → EW false C ops rest ⟨aK gs dst (.pt id 0), H', n'⟩ R) : EW false C ops (⟨dst, .box t x, ty, ps, af, g⟩ :: rest) ⟨gs, hom, nx⟩ R := by
 subst hc
 exact cm hw (N8 (bp hz).1 hl ha) (by simp) (h _ _ _ (hH.new rfl (by simp [Item.ok, upd])))
theorem nb {α : Type} : ∀ (l : List α) (i : Nat) (a b : α), l[i]? = some a → (b :: l.eraseIdx i).Perm (l.set i b) := by
 intro l
 induction l with
 | nil => intro i a b h; simp at h
 | cons x xs ih =>
  intro i a b h
  cases i with
  | zero => exact List.Perm.refl _
  | succ i =>
   simp only [List.getElem?_cons_succ] at h
   simp only [List.eraseIdx_cons_succ, List.set_cons_succ]
   exact (List.Perm.swap x b _).trans ((ih i a b h).cons x)
theorem ax {l : List Item} {i id off m : Nat} {a : Bool} {cs new : List AV} (hw : am ops gs ⟨dst, .store t x y, ty, ps, af, g⟩ = some true) (hz : szg C t = some (m, a)) (hH : HP hom nx l) (hi : l[i]? = some (.box id cs))
  (hx : ev C ⟨gs, hom, nx⟩ x = .pt id off) (hc : (ev C ⟨gs, hom, nx⟩ y).cells = new) (hl : new.length = m) (ha : new.all okC = true) (ho : off + m ≤ cs.length)
  (h : ∀ H', HP H' nx (l.set i (.box id (cC cs off new))) → EW false C ops rest ⟨aK gs dst .undef, H', nx⟩ R) : EW false C ops (⟨dst, .store t x y, ty, ps, af, g⟩ :: rest) ⟨gs, hom, nx⟩ R := by
 subst hc
 obtain ⟨h1, h2⟩ := bp hz
 have h3 : hom id = .box cs := hH.get hi
 have hp : HP (upd hom id (.box (cC cs off (ev C ⟨gs, hom, nx⟩ y).cells))) nx (l.set i (.box id (cC cs off (ev C ⟨gs, hom, nx⟩ y).cells))) :=
  ((hH.pick i hi).write (a := .box id cs) (by simp [Item.live]) rfl (by simp [Item.ok, upd])).perm (nb _ _ _ _ hi)
 refine cm hw (D1 (H1 := upd hom id (.box (cC cs off (ev C ⟨gs, hom, nx⟩ y).cells))) ?_) (by simp) (h _ hp)
 simp only [ke, h1, hx, h3]
 rw [if_pos ⟨hl, ha, ho⟩]
theorem iO {l : List Item} {i id off : Nat} {a : Bool} {cs : List AV} {d : Dat} (hw : am ops gs ⟨dst, .store t x y, ty, ps, af, g⟩ = some true) (hz : szg C t = some (1, a)) (hH : HP hom nx l) (hi : l[i]? = some (.box id cs))
  (hx : ev C ⟨gs, hom, nx⟩ x = .pt id off) (hc : ev C ⟨gs, hom, nx⟩ y = .d d) (hd : d.cells = [d]) (ha : okC (.d d) = true) (ho : off + 1 ≤ cs.length)
  (h : ∀ H', HP H' nx (l.set i (.box id (cs.set off (.d d)))) → EW false C ops rest ⟨aK gs dst .undef, H', nx⟩ R) : EW false C ops (⟨dst, .store t x y, ty, ps, af, g⟩ :: rest) ⟨gs, hom, nx⟩ R := by
 refine ax (new := [.d d]) hw hz hH hi hx (by rw [hc]; simp [AV.cells, hd]) rfl (by simpa using ha) ho (fun H' h' => h H' ?_)
 have : cC cs off [.d d] = cs.set off (.d d) := by
  simp only [cC, List.length_singleton]
  rw [List.set_eq_take_append_cons_drop, if_pos (by omega)]
  simp
 rwa [this] at h'
theorem cx (v : AV) {l : List Item} {i id off : Nat} {a : Bool} {cs : List AV} (hw : am ops gs ⟨dst, .store t x y, ty, ps, af, g⟩ = some true) (hz : szg C t = some (1, a)) (hH : HP hom nx l) (hi : l[i]? = some (.box id cs))
  (hx : ev C ⟨gs, hom, nx⟩ x = .pt id off) (hc : ev C ⟨gs, hom, nx⟩ y = v) (hd : v.cells = [v]) (ha : okC v = true) (ho : off + 1 ≤ cs.length)
  (h : ∀ H', HP H' nx (l.set i (.box id (cs.set off v))) → EW false C ops rest ⟨aK gs dst .undef, H', nx⟩ R) : EW false C ops (⟨dst, .store t x y, ty, ps, af, g⟩ :: rest) ⟨gs, hom, nx⟩ R := by
 refine ax (new := [v]) hw hz hH hi hx (by rw [hc, hd]) rfl (by simpa using ha) ho (fun H' h' => h H' ?_)
 have : cC cs off [v] = cs.set off v := by
  simp only [cC, List.length_singleton]
  rw [List.set_eq_take_append_cons_drop, if_pos (by omega)]
  simp
 rwa [this] at h'
theorem Iz {f off m : Nat} {a : Bool} {d : Dat} (hw : am ops gs ⟨dst, .fieldAddr t x f, ty, ps, af, g⟩ = some true) (hf : fo C t f = some (off, m, a)) (hm : m ≠ 0) (hr : vE (ev C ⟨gs, hom, nx⟩ x) off = some (.d d))
  (h : EW q C ops rest ⟨aK gs dst (.d d), hom, nx⟩ R) : EW q C ops (⟨dst, .fieldAddr t x f, ty, ps, af, g⟩ :: rest) ⟨gs, hom, nx⟩ R := CP hw hf hm hr h
theorem Fb {f off m id o : Nat} {a : Bool} (hw : am ops gs ⟨dst, .fieldAddr t x f, ty, ps, af, g⟩ = some true) (hf : fo C t f = some (off, m, a)) (hm : m ≠ 0) (hx : ev C ⟨gs, hom, nx⟩ x = .pt id o) (o' : Nat) (ho : o + off = o')
  (h : EW q C ops rest ⟨aK gs dst (.pt id o'), hom, nx⟩ R) : EW q C ops (⟨dst, .fieldAddr t x f, ty, ps, af, g⟩ :: rest) ⟨gs, hom, nx⟩ R := CP hw hf hm (by rw [hx, ← ho]; rfl) h
theorem IA {f off m id i o : Nat} {a : Bool} (hw : am ops gs ⟨dst, .fieldAddr t x f, ty, ps, af, g⟩ = some true) (hf : fo C t f = some (off, m, a)) (hm : m ≠ 0) (hx : ev C ⟨gs, hom, nx⟩ x = .pe id i o) (o' : Nat) (ho : o + off = o')
  (h : EW q C ops rest ⟨aK gs dst (.pe id i o'), hom, nx⟩ R) : EW q C ops (⟨dst, .fieldAddr t x f, ty, ps, af, g⟩ :: rest) ⟨gs, hom, nx⟩ R := CP hw hf hm (by rw [hx, ← ho]; rfl) h
theorem ub {i : Nat} {vs : List AV} {d : Dat} (hw : am ops gs ⟨dst, .extract x i, ty, ps, af, g⟩ = some true) (hx : ev C ⟨gs, hom, nx⟩ x = .tup vs) (hr : vs[i]? = some (.d d))
  (h : EW q C ops rest ⟨aK gs dst (.d d), hom, nx⟩ R) : EW q C ops (⟨dst, .extract x i, ty, ps, af, g⟩ :: rest) ⟨gs, hom, nx⟩ R := Dv hw hx hr h
end
end Go.Jv
namespace Go.Jv
def idx {α : Type} (l : List α) (i : Int) : Option α := if 0 ≤ i then l[i.toNat]? else none
def w64 (n : Int) : Int := IntKind.i64.wrap n
def app {α : Type} (B : Nat) (l new : List α) : Option (List α) := if (l.length + new.length) * B ≤ 140737488355328 then some (l ++ new) else none
def cut {α : Type} (l : List α) (lo hi : Int) : Option (List α) := if 0 ≤ lo ∧ lo ≤ hi ∧ hi ≤ l.length then some ((l.drop lo.toNat).take (hi.toNat - lo.toNat)) else none
def rK (s : ByteArray) (lo hi : Int) : Option ByteArray := if 0 ≤ lo ∧ lo ≤ hi ∧ hi ≤ s.size then some (s.extract lo.toNat hi.toNat) else none
def fp (s : ByteArray) (i : Int) : Option Int := if 0 ≤ i then (s[i.toNat]?).map fun b => (b.toNat : Int) else none
def eL {α : Type} (f : α → Dat) (l : List α) : Dat := .lst (l.map f)
def eA {α : Type} (f : α → Dat) (l : List α) : Dat := .agg (l.map f)
def EI (k : IntKind) (a b : Int) : Int := k.wrap (BitVec.ofInt k.bits a &&& BitVec.ofInt k.bits b).toNat
def qx (k : IntKind) (a b : Int) : Option Int := if b < 0 then none else some (a.fdiv (2 ^ (min b.toNat k.bits)))
structure A2 (α : Type) where
 e0 : α
 e1 : α
 deriving Inhabited, DecidableEq
structure A3 (α : Type) where
 e0 : α
 e1 : α
 e2 : α
 deriving Inhabited, DecidableEq
def A2.get {α : Type} (a : A2 α) (i : Int) : Option α := if i = 0 then some a.e0 else if i = 1 then some a.e1 else none
def A3.get {α : Type} (a : A3 α) (i : Int) : Option α := if i = 0 then some a.e0 else if i = 1 then some a.e1 else if i = 2 then some a.e2 else none
def A2.enc {α : Type} (f : α → Dat) (a : A2 α) : Dat := .agg [f a.e0, f a.e1]
section
variable {C : Cfg} {s : St} {gs : Nat → AV} {hom : Hs} {nx : Nat} {q : Bool} {ops : Array Oper} {rest : List Oper} {R : St → Prop} {Q : Ex → St → Prop}
theorem jmp (i : Nat) (v : AV) {c : Code} {p : Way} {g : Nat → AV} {H : Hs} {n : Nat} (hv : g i = v) (h : PAt C c p ⟨upd g i v, H, n⟩ Q) : PAt C c p ⟨g, H, n⟩ Q := by
 have : upd g i v = g := by funext j; simp only [upd]; split
                            ·rename_i e; rw [e, hv]
                            ·rfl
 rwa [this] at h
theorem pd {F : Func} {rs : List Dat} {ex : Ex} {vs : List AV} {H' : Hs} (he : ex = .ret ∨ ex = .normal) (h1 : cF C s F.results.toList = some vs) (h2 : gU s.homes vs = some (rs, H')) : aq C F rs ex s :=
 ⟨fun i hi => (by rcases he with e | e <;> rw [e] at hi <;> cases hi), vs, H', h1, h2⟩
variable {dst : Option Tmp} {ty : TypeId} {ps : String} {af : Array Edge} {g : Option (Nat × Bool)} {t u : TypeId} {x y z : Operand} {v : AV} {ρ : Type} {r : ρ}
theorem Ek {β : Type} {m : Option β} {k : β → Option ρ} {o : Oper} {f : β → AV} (hm : (m >>= k) = some r) (hw : am ops gs o = some true)
  (ho : ∀ y, m = some y → opV C (ev C ⟨gs, hom, nx⟩) o.op hom nx = some (f y, hom, nx)) (hq : q = true → (bE C hom nx nx (ev C ⟨gs, hom, nx⟩) o.op).md = az.md ∧ lp o.op = false)
  (h : ∀ y, k y = some r → EW q C ops rest ⟨aK gs o.dst (f y), hom, nx⟩ R) : EW q C ops (o :: rest) ⟨gs, hom, nx⟩ R := by
 obtain ⟨y, h1, h2⟩ := Option.bind_eq_some_iff.1 hm
 exact cm hw (ho y h1) hq (h y h2)
theorem If {β : Type} {m : Option β} {k : β → Option ρ} {o : Oper} {f : β → AV} (hm : (m >>= k) = some r) (hw : am ops gs o = some true)
  (ho : ∀ y, m = some y → opV C (ev C ⟨gs, hom, nx⟩) o.op hom nx = some (f y, hom, nx)) (hn : opF C (ev C ⟨gs, hom, nx⟩) o.op hom nx = opV C (ev C ⟨gs, hom, nx⟩) o.op hom nx) (hra : jv C (ev C ⟨gs, hom, nx⟩) o.op = none) (hq : (bE C hom nx nx (ev C ⟨gs, hom, nx⟩) o.op).md = az.md)
  (h : ∀ y, k y = some r → EW q C ops rest ⟨aK gs o.dst (f y), hom, nx⟩ R) : EW q C ops (o :: rest) ⟨gs, hom, nx⟩ R := by
 obtain ⟨y, h1, h2⟩ := Option.bind_eq_some_iff.1 hm
 exact Ke hw (ho y h1) (fun _ => hn) (fun _ => by rw [rD hra]; exact hq) (h y h2)
theorem lm {α : Type} {l : List α} {i : Int} {v : α} (h : idx l i = some v) : 0 ≤ i ∧ l[i.toNat]? = some v := by
 unfold idx at h
 split at h
 ·rename_i h1; exact ⟨h1, h⟩
 ·cases h
theorem aA {α : Type} {enc : α → Dat} {l : List α} {i : Int} {kd : IntKind} {k : α → Option ρ} {el : TypeId} {m : Nat} {a : Bool} (hm : ((idx l i) >>= k) = some r) (hw : am ops gs ⟨dst, .indexAddr t x y, ty, ps, af, g⟩ = some true)
  (he : cd C t = some el) (hz : szg C el = some (m, a)) (hc : ∀ v, (enc v).cells.length = m) (hx : ev C ⟨gs, hom, nx⟩ x = .d (.lst (l.map enc))) (hy : ev C ⟨gs, hom, nx⟩ y = .d (.int kd i))
  (h : ∀ v, k v = some r → EW q C ops rest ⟨aK gs dst (.d (.ptr (enc v).cells)), hom, nx⟩ R) : EW q C ops (⟨dst, .indexAddr t x y, ty, ps, af, g⟩ :: rest) ⟨gs, hom, nx⟩ R := by
 refine Ek (f := fun v => .d (.ptr (enc v).cells)) hm hw (fun v hv => ?_) (fun _ => ⟨rfl, rfl⟩) h
 obtain ⟨h0, h1⟩ := lm hv
 refine ph ?_
 simp only [dJ, hx, hy, iR, he]
 rw [if_neg (by omega)]
 simp [h1, (bp hz).1, hc]
theorem bO {α : Type} {enc : α → Dat} {l : List α} {i : Int} {kd : IntKind} {k : α → Option ρ} {el : TypeId} {m : Nat} {a : Bool} {L : List Item} {j : Nat} {w : AV} (hm : ((idx l i) >>= k) = some r) (hw : am ops gs ⟨dst, .indexAddr t x y, ty, ps, af, g⟩ = some true)
  (he : cd C t = some el) (hz : szg C el = some (m, a)) (hH : HP hom nx L) (hj : L[j]? = some (.own w ⟨el, m⟩ (l.map enc))) (hx : ev C ⟨gs, hom, nx⟩ x = w) (hy : ev C ⟨gs, hom, nx⟩ y = .d (.int kd i))
  (h : ∀ id v, k v = some r → w = .sl id 0 l.length → l[i.toNat]? = some v → EW q C ops rest ⟨aK gs dst (.pe id i.toNat 0), hom, nx⟩ R) : EW q C ops (⟨dst, .indexAddr t x y, ty, ps, af, g⟩ :: rest) ⟨gs, hom, nx⟩ R := by
 obtain ⟨v, h1, h2⟩ := Option.bind_eq_some_iff.1 hm
 obtain ⟨h0, h1⟩ := lm h1
 rcases hH.get hj with ⟨_, h3⟩ | ⟨id, ys, h3, h4⟩
 ·simp only [List.map_eq_nil_iff] at h3
  subst h3
  simp at h1
 ·rw [List.length_map] at h3
  refine cm hw (v := .pe id i.toNat 0) (H1 := hom) (n1 := nx) (ph ?_) (fun _ => ⟨rfl, rfl⟩) (h id v h2 h3 h1)
  have hl : i.toNat < l.length := (List.getElem?_eq_some_iff.1 h1).1
  simp only [dJ, hx, hy, iR, he, h3]
  rw [if_neg (by omega)]
  simp only [nR, h4, ud, (bp hz).1]
  rw [if_pos ⟨by omega, by simp⟩]
  simp
theorem cD {α : Type} {enc : α → Dat} {l : List α} {i o : Nat} {el : TypeId} {m m' : Nat} {a : Bool} {L : List Item} {j id : Nat} {w : AV} {e : α} {d : Dat} (hw : am ops gs ⟨dst, .load t x, ty, ps, af, g⟩ = some true) (hz : szg C t = some (m, a))
  (hH : HP hom nx L) (hj : L[j]? = some (.own w ⟨el, m'⟩ (l.map enc))) (hid : w = .sl id 0 l.length) (hx : ev C ⟨gs, hom, nx⟩ x = .pe id i o) (he : l[i]? = some e) (hr : (jO (enc e).cells o m).bind (mkD a) = some d)
  (h : EW q C ops rest ⟨aK gs dst (.d d), hom, nx⟩ R) : EW q C ops (⟨dst, .load t x, ty, ps, af, g⟩ :: rest) ⟨gs, hom, nx⟩ R := by
 obtain ⟨h1, h2⟩ := bp hz
 rcases hH.get hj with ⟨h3, _⟩ | ⟨id', ys, h3, h4⟩
 ·rw [hid] at h3; cases h3
 ·rw [hid] at h3
  injection h3 with h5
  subst h5
  have hg : (l.map enc ++ ys)[i]? = some (enc e) := by
   rw [List.getElem?_append_left (by simpa using (List.getElem?_eq_some_iff.1 he).1)]
   simp [he]
  exact cm hw (uV (by simp only [iQ, h1, h2, hx, h4, hg, hr]; rfl)) (fun _ => ⟨rfl, rfl⟩) h
theorem al {β : Type} {m : Option β} {k : β → Option ρ} {f : FuncId} {args : Array Operand} {ts : Array TypeId} {xs : List Dat} {E : β → List Dat} (hm : (m >>= k) = some r)
  (hw : am ops gs ⟨dst, .call ⟨.value (.func f), args, ts⟩, ty, ps, af, g⟩ = some true) (hs : C.sig f = .scal) (hf : ck (see 4 hom) (args.toList.map (ev C ⟨gs, hom, nx⟩)) = some xs)
  (hc : ∀ y, m = some y → aL C f xs = some (E y)) (hp : ∀ y, (E y).all kU = true)
  (h : ∀ y, k y = some r → EW q C ops rest ⟨aK gs dst (dv ((E y).map .d)), hom, nx⟩ R) : EW q C ops (⟨dst, .call ⟨.value (.func f), args, ts⟩, ty, ps, af, g⟩ :: rest) ⟨gs, hom, nx⟩ R :=
 If (f := fun y => dv ((E y).map .d)) hm hw (fun y hy => M8 rfl hs hf (hc y hy) (hp y)) (F8 (f := f) (caps := []) rfl (by rw [hs]; simp)) (by simp [jv, gP, ev, hs]) (by simp [bE, gP, ev, hs]) h
theorem yV {β : Type} {m : Option β} {k : β → Option ρ} {f : FuncId} {args : Array Operand} {ts : Array TypeId} {xs : List Dat} {E : β → List Dat} (hm : (m >>= k) = some r)
  (hw : am ops gs ⟨dst, .call ⟨.value (.func f), args, ts⟩, ty, ps, af, g⟩ = some true) (hs : C.sig f = .dat) (hf : gU hom (args.toList.map (ev C ⟨gs, hom, nx⟩)) = some (xs, hom))
  (hd : ((args.toList.map (ev C ⟨gs, hom, nx⟩)).all fun x => (dN x).isSome) = true) (hc : ∀ y, m = some y → aL C f xs = some (E y))
  (h : ∀ y, k y = some r → EW q C ops rest ⟨aK gs dst (dv ((E y).map .d)), hom, nx⟩ R) : EW q C ops (⟨dst, .call ⟨.value (.func f), args, ts⟩, ty, ps, af, g⟩ :: rest) ⟨gs, hom, nx⟩ R :=
 If (f := fun y => dv ((E y).map .d)) hm hw (fun y hy => HS rfl hs hf (hc y hy)) (F8 (f := f) (caps := []) rfl (by rw [hs]; simp)) (by simp [jv, gP, ev, hs]) (by
  simp only [bE, gP, ev, hs, List.map_nil, List.append_nil]
  have : ((args.toList.map (ev C ⟨gs, hom, nx⟩)).all fun x => (dN x).isSome) = true := hd
  rw [if_pos this]) h
theorem sn {f : AV → Option Dat} : ck f [] = some [] := rfl
theorem sc {f : AV → Option Dat} {v : AV} {vs : List AV} {d : Dat} {ds : List Dat} (h : f v = some d) (k : ck f vs = some ds) : ck f (v :: vs) = some (d :: ds) := by simp [ck, h, k]
theorem so {H : Hs} {n : Nat} {L : List Item} {j : Nat} {w : AV} {z : Row} {xs : List Dat} (N : Nat) (hH : HP H n L) (hj : L[j]? = some (.own w z xs)) : see (N + 1) H w = some (.lst xs) := by
 rcases hH.get hj with ⟨rfl, rfl⟩ | ⟨id, ys, rfl, h4⟩
 ·rfl
 ·simp only [see, h4]
  rw [if_pos ⟨by omega, by simp⟩]
  simp [win]
theorem yW {m : Int} (hw : am ops gs ⟨dst, .call ⟨.builtin .len, #[x], #[t]⟩, ty, ps, af, g⟩ = some true) (hl : nc C t (ev C ⟨gs, hom, nx⟩ x) = some m)
  (h : EW q C ops rest ⟨aK gs dst (.d (.int .i64 m)), hom, nx⟩ R) : EW q C ops (⟨dst, .call ⟨.builtin .len, #[x], #[t]⟩, ty, ps, af, g⟩ :: rest) ⟨gs, hom, nx⟩ R :=
 cm hw (KE hl) (fun _ => ⟨rfl, rfl⟩) h
theorem jl {t el : TypeId} (he : cd C t = some el) : ∃ y, C.ty t = some y ∧ y.desc = .slice el := by
 unfold cd at he
 split at he
 ·rename_i y hy
  split at he
  ·rename_i e hd; cases he; exact ⟨y, hy, hd⟩
  ·cases he
 ·cases he
theorem KK {α : Type} {enc : α → Dat} {l : List α} {el : TypeId} (hw : am ops gs ⟨dst, .call ⟨.builtin .len, #[x], #[t]⟩, ty, ps, af, g⟩ = some true) (he : cd C t = some el) (hx : ev C ⟨gs, hom, nx⟩ x = .d (.lst (l.map enc)))
  (h : EW q C ops rest ⟨aK gs dst (.d (.int .i64 (l.length : Int))), hom, nx⟩ R) : EW q C ops (⟨dst, .call ⟨.builtin .len, #[x], #[t]⟩, ty, ps, af, g⟩ :: rest) ⟨gs, hom, nx⟩ R := by
 obtain ⟨y, h1, h2⟩ := jl he
 exact yW hw (by simp [nc, h1, h2, hx]) h
theorem Ig {α : Type} {enc : α → Dat} {l : List α} {el : TypeId} {L : List Item} {j : Nat} {w : AV} {z : Row} (hw : am ops gs ⟨dst, .call ⟨.builtin .len, #[x], #[t]⟩, ty, ps, af, g⟩ = some true) (he : cd C t = some el)
  (hH : HP hom nx L) (hj : L[j]? = some (.own w z (l.map enc))) (hx : ev C ⟨gs, hom, nx⟩ x = w)
  (h : EW q C ops rest ⟨aK gs dst (.d (.int .i64 (l.length : Int))), hom, nx⟩ R) : EW q C ops (⟨dst, .call ⟨.builtin .len, #[x], #[t]⟩, ty, ps, af, g⟩ :: rest) ⟨gs, hom, nx⟩ R := by
 obtain ⟨y, h1, h2⟩ := jl he
 refine yW hw ?_ h
 rcases hH.get hj with ⟨h3, h4⟩ | ⟨id, ys, h3, h4⟩
 ·simp only [List.map_eq_nil_iff] at h4
  subst h4
  simp [nc, h1, h2, hx, h3]
 ·simp [nc, h1, h2, hx, h3]
theorem du {b : ByteArray} (hw : am ops gs ⟨dst, .call ⟨.builtin .len, #[x], #[t]⟩, ty, ps, af, g⟩ = some true) (he : (C.ty t).map (·.desc) = some .string) (hx : ev C ⟨gs, hom, nx⟩ x = .d (.str b))
  (h : EW q C ops rest ⟨aK gs dst (.d (.int .i64 (b.size : Int))), hom, nx⟩ R) : EW q C ops (⟨dst, .call ⟨.builtin .len, #[x], #[t]⟩, ty, ps, af, g⟩ :: rest) ⟨gs, hom, nx⟩ R := by
 obtain ⟨y, h1, h2⟩ := Option.map_eq_some_iff.1 he
 exact yW hw (by simp [nc, h1, h2, hx]) h
theorem HP.addNil {H : Hs} {n : Nat} {L : List Item} (z : Row) (hH : HP H n L) : HP H n (.own .nil z [] :: L) :=
 ⟨by rw [List.flatMap_cons]; simpa [Item.live, aH] using hH.nd, fun it hi => by
  rcases List.mem_cons.1 hi with rfl | hi
  ·exact .inl ⟨rfl, rfl⟩
  ·exact hH.ok it hi, fun it hi i hm => by
  rcases List.mem_cons.1 hi with rfl | hi
  ·simp [Item.ids, aH] at hm
  ·exact hH.lt it hi i hm⟩
theorem G3 {α β : Type} (f : α → List β) : ∀ {l l' : List α}, l'.Sublist l → (l'.flatMap f).Sublist (l.flatMap f) := by
 intro l l' h
 induction h with
 | slnil => exact List.Sublist.refl _
 | cons a _ ih => rw [List.flatMap_cons]; exact ih.trans (List.sublist_append_right _ _)
 | cons_cons a _ ih => rw [List.flatMap_cons, List.flatMap_cons]; exact (List.Sublist.refl _).append ih
theorem HP.sub {H : Hs} {n : Nat} {L L' : List Item} (hH : HP H n L) (hs : L'.Sublist L) : HP H n L' :=
 ⟨List.Nodup.sublist (G3 Item.live hs) hH.nd, fun it hi => hH.ok it (hs.subset hi), fun it hi => hH.lt it (hs.subset hi)⟩
theorem EJ {H : Hs} {n : Nat} {L : List Item} {j : Nat} {w : AV} {z : Row} {xs : List Dat} (hH : HP H n L) (hj : L[j]? = some (.own w z xs)) : ∃ H1, pH H z w = some (xs, H1) ∧ HP H1 n (L.eraseIdx j) := by
 rcases hH.get hj with ⟨rfl, rfl⟩ | ⟨id, ys, rfl, h4⟩
 ·exact ⟨H, rfl, hH.sub (List.eraseIdx_sublist _ _)⟩
 ·refine ⟨upd H id .dead, ?_, (hH.pick j hj).other (by simp [Item.live, aH])⟩
  simp [pH, h4]
def yX (H : Hs) (x : AV) (new : List Dat) : Prop := see 1 H x = some (.lst new)
theorem kw {H : Hs} {xs : List Dat} : yX H (.d (.lst xs)) xs := rfl
theorem aM {H : Hs} {n : Nat} {L : List Item} {j : Nat} {w : AV} {z : Row} {xs : List Dat} (hH : HP H n L) (hj : L[j]? = some (.own w z xs)) : yX H w xs := so 0 hH hj
theorem bl {α : Type} {enc : α → Dat} {l new : List α} {B : Nat} {k : List α → Option ρ} {el : TypeId} {m : Nat} {a : Bool} {L : List Item} {j : Nat} {w : AV} (hm : ((app B l new) >>= k) = some r)
  (hw : am ops gs ⟨dst, .call ⟨.builtin .append, #[x, y], #[t, t]⟩, ty, ps, af, g⟩ = some true) (he : cd C t = some el) (hz : szg C el = some (m, a)) (hB : (C.ty el).map (·.bytes) = some B) (h0 : 0 < m ∧ 0 < B) (hc : ∀ v, (enc v).cells.length = m)
  (hH : HP hom nx L) (hj : L[j]? = some (.own w ⟨el, m⟩ (l.map enc))) (hx : ev C ⟨gs, hom, nx⟩ x = w) (hy : yX hom (ev C ⟨gs, hom, nx⟩ y) (new.map enc))
  (h : ∀ l' w' H' n', k l' = some r → HP H' n' (.own w' ⟨el, m⟩ (l'.map enc) :: L.eraseIdx j) → EW false C ops rest ⟨aK gs dst w', H', n'⟩ R) :
  EW false C ops (⟨dst, .call ⟨.builtin .append, #[x, y], #[t, t]⟩, ty, ps, af, g⟩ :: rest) ⟨gs, hom, nx⟩ R := by
 obtain ⟨l', h1, h2⟩ := Option.bind_eq_some_iff.1 hm
 unfold app at h1
 split at h1
 ·rename_i hb
  cases h1
  obtain ⟨H1, h3, h4⟩ := EJ hH hj
  obtain ⟨ye, hye, h5⟩ := Option.map_eq_some_iff.1 hB
  have h6 : ye.size = m := by have := (bp hz).1; simpa [bP, hye] using this
  have hp : HP (upd H1 nx (.own ⟨el, m⟩ ((l ++ new).map enc))) (nx + 1) (.own (.sl nx 0 (l ++ new).length) ⟨el, m⟩ ((l ++ new).map enc) :: L.eraseIdx j) := by
   refine h4.new (by simp [Item.ids, aH]) ?_
   exact .inr ⟨nx, [], by simp, by simp [upd]⟩
  refine cm hw (Fy (r := (.sl nx 0 (l ++ new).length, upd H1 nx (.own ⟨el, m⟩ ((l ++ new).map enc)), nx + 1)) ?_) (by simp) (h _ _ _ _ h2 hp)
  simp only [yX] at hy
  simp only [ky, if_true, he, hye, h6, hx, h3, hy, h5]
  rw [if_pos]
  ·simp
  ·refine ⟨?_, h0.1, h0.2, by simpa using hb⟩
   simp [hc]
 ·cases h1
end
end Go.Jv
