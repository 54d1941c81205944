/- Regions that draw their order. -/
import Derived.Test.YtkmbagocakiefaaGreatDoorL6
namespace Go.Jv
theorem Jp {f g : Ft} (h1 : ∀ id, f.md id) (h2 : ¬ ∀ id, ¬ g.md id) : fj f g := by
 obtain ⟨id, h3⟩ := Classical.not_forall.1 h2
 exact ⟨id, .inl ⟨h1 id, .inr (Classical.not_not.1 h3)⟩⟩
theorem Jq {f g : Ft} (h1 : ¬ ∀ id, ¬ f.md id) (h2 : ∀ id, g.md id) : fj f g := by
 obtain ⟨id, h3⟩ := Classical.not_forall.1 h1
 exact ⟨id, .inl ⟨Classical.not_not.1 h3, .inr (h2 id)⟩⟩
theorem Jr {f g : Ft} {id : Nat} (h1 : f.mods id) (h2 : g.looks id) : fj f g := ⟨id, .inl ⟨h1, .inl h2⟩⟩
theorem AD {f g : Ft} {id : Nat} (h1 : f.mods id) (h2 : g.mods id) : fj f g := ⟨id, .inl ⟨h1, .inr h2⟩⟩
theorem Js {f g : Ft} {id : Nat} (h1 : f.looks id) (h2 : g.mods id) : fj f g := ⟨id, .inr ⟨h1, h2⟩⟩
def xD (acc : List (List Nat)) (o : Oper) : List Nat := (o.after.toList.flatMap fun e => if Region.binds .any e then e.on :: acc.getD e.on [] else []).eraseDups
theorem BD (l : List Oper) (o : Oper) : dP (l ++ [o]) = dP l ++ [xD (dP l) o] := by simp [dP, xD, List.foldl_append]
theorem EY {α : Type} {p : List α → Prop} (h0 : p []) (h1 : ∀ l a, p l → p (l ++ [a])) (l : List α) : p l := by
 have : ∀ l : List α, p l.reverse := fun l => by
  induction l with
  | nil => exact h0
  | cons a l ih => rw [List.reverse_cons]; exact h1 _ _ ih
 simpa using this l.reverse
theorem EZ (l : List Oper) : (dP l).length = l.length := by
 refine EY (p := fun l => (dP l).length = l.length) rfl (fun l o ih => ?_) l
 rw [BD]; simp [ih]
theorem Hg (l : List Oper) : ∀ (i : Nat) o, l[i]? = some o → (dP l).getD i [] = xD (dP (l.take i)) o ∧ ∀ k, k < i → (dP (l.take i)).getD k [] = (dP l).getD k [] := by
 refine EY (p := fun l => ∀ (i : Nat) o, l[i]? = some o → (dP l).getD i [] = xD (dP (l.take i)) o ∧ ∀ k, k < i → (dP (l.take i)).getD k [] = (dP l).getD k []) ?_ ?_ l
 ·intro i o h; simp at h
 ·intro l o' ih i o h
  have hl := EZ l
  rw [BD]
  by_cases hi : i < l.length
  ·rw [List.getElem?_append_left hi] at h
   obtain ⟨h1, h2⟩ := ih i o h
   have ht : (l ++ [o']).take i = l.take i := List.take_append_of_le_length (by omega)
   rw [ht]
   refine ⟨?_, fun k hk => ?_⟩
   ·rw [← h1]; simp [List.getD_eq_getElem?_getD, List.getElem?_append_left (by omega : i < (dP l).length)]
   ·rw [h2 k hk]; simp [List.getD_eq_getElem?_getD, List.getElem?_append_left (by omega : k < (dP l).length)]
  ·have hi' : i = l.length := by
    have := (List.getElem?_eq_some_iff.1 h).1
    simp at this; omega
   subst hi'
   rw [List.getElem?_append_right (Nat.le_refl _)] at h
   simp at h
   subst h
   have ht : (l ++ [o']).take l.length = l := by simp
   rw [ht]
   refine ⟨?_, fun k hk => ?_⟩
   ·simp [List.getD_eq_getElem?_getD, List.getElem?_append_right (by omega : (dP l).length ≤ l.length), hl]
   ·simp [List.getD_eq_getElem?_getD, List.getElem?_append_left (by omega : k < (dP l).length)]
theorem js {ops : Array Oper} (hb : tz ops = true) {L : Nat → Prop} (hL : ∀ i o, L i → ops[i]? = some o → ∀ e ∈ o.after, Region.binds .any e = true → L e.on) :
  ∀ (i : Nat), L i → i < ops.size → ∀ j, j ∈ (dP ops.toList).getD i [] → L j ∧ j < i := by
 intro i
 induction i using Nat.strongRecOn with
 | _ i ih =>
  intro hi hlt j hj
  have ho : ops.toList[i]? = some ops[i] := by simp [hlt]
  obtain ⟨h1, h2⟩ := Hg ops.toList i _ ho
  rw [h1] at hj
  simp only [xD, List.mem_eraseDups, List.mem_flatMap] at hj
  obtain ⟨e, he, hj⟩ := hj
  split at hj
  ·rename_i hbd
   have he' : e ∈ ops[i].after := by simpa using he
   have hlt2 : e.on < i := by
    have := List.all_eq_true.1 hb (ops[i], i) (by
     rw [List.mem_zipIdx_iff_getElem?]
     simp [hlt])
    have := List.all_eq_true.1 this e he
    simpa [hbd] using this
   have hLe := hL i _ hi (by simp [hlt]) e he' hbd
   simp only [List.mem_cons] at hj
   rcases hj with rfl | hj
   ·exact ⟨hLe, hlt2⟩
   ·rw [h2 _ hlt2] at hj
    obtain ⟨h3, h4⟩ := ih e.on hlt2 hLe (by omega) j hj
    exact ⟨h3, by omega⟩
  ·simp at hj
section
variable {P : Program} {C : Cfg} {S0 : Nat → Prop} {L0 : Lz} {w0 : World} {S : Nat → Prop} {B : Nat → Option Pl} {H : Hs} {F : Nat → Prop} {nx : Nat} {w : World}
def rc (P : Program) (C : Cfg) (ops : Array Oper) (st : Nat → St) (fs : List Ft) (i : Nat) (o : Oper) : Prop :=
 (am ops (st i).regs o = some false ∧ st (i + 1) = { st i with regs := aK (st i).regs o.dst .undef } ∧ fs[i]? = some az) ∨
 ∃ v H1 n1 f, am ops (st i).regs o = some true ∧ rz P C (ev C (st i)) o.op (st i).homes (st i).next (v, H1, n1) f ∧ st (i + 1) = ⟨aK (st i).regs o.dst v, H1, n1⟩ ∧
  fs[i]? = some f ∧ (bH o.op = true → f = az)
theorem Tr.trace {ops : Array Oper} {l : List Oper} {s : St} {fs : List Ft} {s' : St} (hT : Tr P C ops l s fs s') :
  ∃ st : Nat → St, st 0 = s ∧ st l.length = s' ∧ ∀ (i : Nat) o, l[i]? = some o → rc P C ops st fs i o := by
 induction hT with
 | nil s => exact ⟨fun _ => s, rfl, rfl, fun i o h => by simp at h⟩
 | skip o rest s fs s' hw hT ih =>
  obtain ⟨st, h0, hn, hs⟩ := ih
  refine ⟨fun i => match i with | 0 => s | i + 1 => st i, rfl, hn, fun i o' h => ?_⟩
  match i with
  | 0 => simp at h; subst h; exact .inl ⟨hw, h0, rfl⟩
  | i + 1 => exact hs i o' (by simpa using h)
 | go o rest s v H1 n1 f fs s' hw ho hq hT ih =>
  obtain ⟨st, h0, hn, hs⟩ := ih
  refine ⟨fun i => match i with | 0 => s | i + 1 => st i, rfl, hn, fun i o' h => ?_⟩
  match i with
  | 0 => simp at h; subst h; exact .inr ⟨v, H1, n1, f, hw, ho, h0, rfl, hq⟩
  | i + 1 => exact hs i o' (by simpa using h)
variable {ops : Array Oper} {st : Nat → St} {fs : List Ft}
def tY (fs : List Ft) (i id : Nat) : Prop := ∃ f, fs[i]? = some f ∧ f.mods id
def uB (ops : Array Oper) (i : Nat) (t : Tmp) : Prop := ∃ o, ops[i]? = some o ∧ o.dst = some t
theorem BE {regs : Nat → AV} {dst : Option Tmp} {v : AV} {t : Tmp} (h : dst ≠ some t) : aK regs dst v t = regs t := by
 cases dst with
 | none => rfl
 | some d => simp only [aK, upd]; rw [if_neg]; rintro rfl; exact h rfl
theorem Do (hs : ∀ i o, ops[i]? = some o → rc P C ops st fs i o) {i : Nat} (hi : i < ops.size) {t : Tmp} (h : ¬ uB ops i t) : (st (i + 1)).regs t = (st i).regs t := by
 have ho : ops[i]? = some ops[i] := by simp [hi]
 have hd : ops[i].dst ≠ some t := fun e => h ⟨_, ho, e⟩
 rcases hs i _ ho with ⟨_, h2, _⟩ | ⟨v, H1, n1, f, _, _, h2, _⟩ <;> rw [h2] <;> exact BE hd
theorem BF (hs : ∀ i o, ops[i]? = some o → rc P C ops st fs i o) {i : Nat} (hi : i < ops.size) {id : Nat} (h : ¬ tY fs i id) : (st (i + 1)).homes id = (st i).homes id := by
 have ho : ops[i]? = some ops[i] := by simp [hi]
 rcases hs i _ ho with ⟨_, h2, _⟩ | ⟨v, H1, n1, f, _, h3, h2, hf, _⟩
 ·rw [h2]
 ·rw [h2]
  obtain ⟨_, _, _, h4⟩ := h3
  obtain ⟨H1', hL, _⟩ := h4 _ _ (fun _ _ => rfl) (fun _ _ => rfl)
  exact (hL.2 id (fun hm => h ⟨_, hf, hm⟩)).2
theorem xG (hs : ∀ i o, ops[i]? = some o → rc P C ops st fs i o) {i : Nat} (hi : i < ops.size) : (st i).next ≤ (st (i + 1)).next ∧ (∀ f, fs[i]? = some f → (∀ id, ¬ f.md id) → (st (i + 1)).next = (st i).next) := by
 have ho : ops[i]? = some ops[i] := by simp [hi]
 rcases hs i _ ho with ⟨_, h2, _⟩ | ⟨v, H1, n1, f, _, h3, h2, hf, _⟩
 ·rw [h2]; exact ⟨Nat.le_refl _, fun _ _ _ => rfl⟩
 ·rw [h2]; exact ⟨h3.1, fun f hf' hm => by rw [hf] at hf'; cases hf'; exact h3.2.2.1 hm⟩
theorem re {α : Type} {g : Nat → α} {n : Nat} {p : Nat → Prop} (hs : ∀ i, i < n → ¬ p i → g (i + 1) = g i) : ∀ (a b : Nat), a ≤ b → b ≤ n → (∀ j, a ≤ j → j < b → ¬ p j) → g b = g a := by
 intro a b hab
 induction b with
 | zero => intro _ _; have : a = 0 := by omega
           rw [this]
 | succ b ih =>
  intro hn hp
  by_cases e : a = b + 1
  ·rw [e]
  ·rw [hs b (by omega) (hp b (by omega) (by omega))]
   exact ih (by omega) (by omega) fun j h1 h2 => hp j h1 (by omega)
theorem kR (hs : ∀ i o, ops[i]? = some o → rc P C ops st fs i o) : ∀ (a b : Nat), a ≤ b → b ≤ ops.size → (st a).next ≤ (st b).next := by
 intro a b hab
 induction b with
 | zero => intro _; have : a = 0 := by omega
           rw [this]; exact Nat.le_refl _
 | succ b ih =>
  intro hn
  by_cases e : a = b + 1
  ·rw [e]; exact Nat.le_refl _
  ·exact Nat.le_trans (ih (by omega) (by omega)) (xG hs (by omega)).1
theorem F0 (st : Nat → St) (ops : Array Oper) {id : Nat} : ∀ (b : Nat), b ≤ ops.size → (st 0).next ≤ id → id < (st b).next → ∃ j, j < b ∧ (st j).next ≤ id ∧ id < (st (j + 1)).next := by
 intro b
 induction b with
 | zero => intro _ h1 h2; omega
 | succ b ih =>
  intro hb h1 h2
  by_cases h3 : id < (st b).next
  ·obtain ⟨j, h4, h5⟩ := ih (by omega) h1 h3
   exact ⟨j, by omega, h5⟩
  ·exact ⟨b, by omega, by omega, h2⟩
theorem Dp {p q : Nat → Bool} : ∀ {l : List Nat}, (∀ x ∈ l, q x = true → p x = true) → ∀ x0 ∈ l, p x0 = true → q x0 = false → l.countP q < l.countP p
 | [], _, x0, h, _, _ => by simp at h
 | x :: l, hpq, x0, h, hp, hq => by
  have hle : l.countP q ≤ l.countP p := List.countP_mono_left fun y hy hqy => hpq y (by simp [hy]) hqy
  by_cases e : x0 = x
  ·subst e
   rw [List.countP_cons_of_neg (by simp [hq]), List.countP_cons_of_pos hp]
   omega
  ·have h2 := Dp (l := l) (fun y hy => hpq y (List.mem_cons_of_mem _ hy)) x0 (by simpa [e] using h) hp hq
   by_cases hqx : q x = true
   ·rw [List.countP_cons_of_pos hqx, List.countP_cons_of_pos (hpq x (by simp) hqx)]; omega
   ·rw [List.countP_cons_of_neg hqx]
    by_cases hpx : p x = true
    ·rw [List.countP_cons_of_pos hpx]; omega
    ·rw [List.countP_cons_of_neg hpx]; omega
theorem F1 (f : Ft) : ¬ fj f az ∧ ¬ fj az f := by
 constructor <;> rintro ⟨i, h⟩ <;> simp [az, Ft.of] at h
theorem rR (hs : ∀ i o, ops[i]? = some o → rc P C ops st fs i o) (hp : gL fs (iU ops.toList)) {i j : Nat} (hji : j < i) (hi : i < ops.size) {f g : Ft} (hf : fs[j]? = some f) (hg : fs[i]? = some g)
  (hc : fj f g) : j ∈ (dP ops.toList).getD i [] := by
 refine Classical.byContradiction fun hn => ?_
 have hoi : ops[i]? = some ops[i] := by simp [hi]
 have hoj : ops[j]? = some (ops[j]'(by omega)) := by simp [show j < ops.size by omega]
 have hq : ∀ (k : Nat) (o : Oper) (h : Ft), ops[k]? = some o → fs[k]? = some h → bH o.op = true → h = az := by
  intro k o h ho hk hq
  rcases hs k o ho with ⟨_, _, h2⟩ | ⟨v, H1, n1, f, _, _, _, h2, h3⟩
  ·rw [h2] at hk; exact (Option.some.inj hk).symm
  ·rw [h2, h3 hq] at hk; exact (Option.some.inj hk).symm
 have hqi : bH ops[i].op = false := by
  cases h : bH ops[i].op with
  | false => rfl
  | true => rw [hq i _ g hoi hg h] at hc; exact absurd hc (F1 f).1
 have hqj : bH (ops[j]'(by omega)).op = false := by
  cases h : bH (ops[j]'(by omega)).op with
  | false => rfl
  | true => rw [hq j _ f hoj hf h] at hc; exact absurd hc (F1 g).2
 have hmem : (j, i) ∈ iU ops.toList := by
  simp only [iU, List.mem_flatMap, List.mem_range, List.mem_filterMap]
  refine ⟨i, by simpa using hi, j, hji, ?_⟩
  have h1 : ((dP ops.toList).getD i []).contains j = false := by
   cases h : ((dP ops.toList).getD i []).contains j with
   | false => rfl
   | true => exact absurd (List.contains_iff_mem.1 h) hn
  have h2 : ∀ k (hk : k < ops.size), (ops.toList.map (·.op)).getD k (.move (.const (.bool true))) = ops[k].op := by
   intro k hk
   simp [List.getD_eq_getElem?_getD, hk]
  rw [h1, h2 i hi, h2 j (by omega), hqi, hqj]
  rfl
 exact hp _ hmem f g hf hg hc
theorem CL (ht : tw ops = true) {i j : Nat} (hji : j < i) (hi : i < ops.size) {x y : Oper} (hx : ops[i]? = some x) (hy : ops[j]? = some y) {t : Tmp}
  (hc : (x.dst = some t ∧ (y.dst = some t ∨ t ∈ y.looksAt ops)) ∨ (y.dst = some t ∧ t ∈ x.looksAt ops)) : j ∈ (dP ops.toList).getD i [] := by
 have h1 := List.all_eq_true.1 (List.all_eq_true.1 ht i (by simpa using hi)) j (by simpa using hji)
 simp only [hx, hy, Bool.or_eq_true, Bool.and_eq_true] at h1
 rcases h1 with h1 | ⟨h1, h2⟩
 ·exact List.contains_iff_mem.1 h1
 ·obtain ⟨a1, a2, a3⟩ := Oper.apart_spec h1
  rcases hc with ⟨h3, h4 | h4⟩ | ⟨h3, h4⟩
  ·exact absurd h4 (a2 t h3)
  ·exact absurd h4 (a1 t h3)
  ·exact absurd h4 (a3 t h3)
theorem xH {R R' : Nat → AV} {o : Oper} (h : ∀ t ∈ o.looksAt ops, R t = R' t) : am ops R o = am ops R' o := by
 unfold am
 cases hg : o.guard with
 | none => rfl
 | some q =>
  obtain ⟨j, c⟩ := q
  simp only
  cases ht : (ops[j]?).bind (·.dst) with
  | none => rfl
  | some t =>
   simp only
   rw [h t (by simp [Oper.looksAt, hg, ht])]
theorem Jt {R R' : Nat → AV} {H H' : Hs} {n n' : Nat} {o : Oper} (h : ∀ t ∈ o.looksAt ops, R t = R' t) : ∀ x ∈ o.op.operands, ev C ⟨R, H, n⟩ x = ev C ⟨R', H', n'⟩ x := by
 intro x hx
 cases x with
 | tmp t => exact h t (by simp only [Oper.looksAt, List.mem_append, List.mem_filterMap]; exact .inl ⟨.tmp t, by simpa using hx, rfl⟩)
 | _ => rfl
structure Mid (C : Cfg) (ops : Array Oper) (st : Nat → St) (fs : List Ft) (L : Nat → Prop) (R : Nat → AV) (H : Hs) (F : Nat → Prop) : Prop where
 regs : ∀ t k, k ≤ ops.size → (∀ j, j < k → uB ops j t → L j) → (∀ j, k ≤ j → j < ops.size → uB ops j t → ¬ L j) → R t = (st k).regs t
 homes : ∀ id k, k ≤ ops.size → (∀ j, j < k → tY fs j id → L j) → (∀ j, k ≤ j → j < ops.size → tY fs j id → ¬ L j) → H id = (st k).homes id
 free : ∀ id, F id ↔ (st 0).next ≤ id ∧ ∀ j, j < ops.size → L j → id < (st j).next ∨ (st (j + 1)).next ≤ id
variable {a0 a1 : Act} {w1 : World} {S1 : Nat → Prop} {B1 : Nat → Option Pl} {R : Nat → AV} {L : Nat → Prop}
section
variable (hs : ∀ i o, ops[i]? = some o → rc P C ops st fs i o) (hp : gL fs (iU ops.toList)) (ht : tw ops = true) (hb : tz ops = true)
variable (hL : ∀ i o, L i → ops[i]? = some o → ∀ e ∈ o.after, Region.binds .any e = true → L e.on)
include hs hp ht hb hL
theorem Mid.same (hM : Mid C ops st fs L R H F) {i : Nat} {o : Oper} (ho : ops[i]? = some o) (hni : ¬ L i) (hpre : ∀ j, j ∈ (dP ops.toList).getD i [] → L j) :
  (∀ t ∈ o.looksAt ops, R t = (st i).regs t) ∧ ∀ f, fs[i]? = some f → ∀ id, f.looks id ∨ f.mods id → H id = (st i).homes id := by
 have hi : i < ops.size := (Array.getElem?_eq_some_iff.1 ho).1
 refine ⟨fun t hto => hM.regs t i (by omega) ?_ ?_, fun f hf id hid => hM.homes id i (by omega) ?_ ?_⟩
 ·rintro j hj ⟨y, hy, hd⟩
  exact hpre j (CL ht hj hi ho hy (.inr ⟨hd, hto⟩))
 ·rintro j hij hj ⟨y, hy, hd⟩ hLj
  by_cases e : j = i
  ·subst e; exact hni hLj
  ·exact hni (js hb hL j hLj hj i (CL ht (by omega) hj hy ho (.inl ⟨hd, .inr hto⟩))).1
 ·rintro j hj ⟨g, hg, hm⟩
  exact hpre j (rR hs hp hj hi hg hf (hid.elim (Jr hm) (AD hm)))
 ·rintro j hij hj ⟨g, hg, hm⟩ hLj
  by_cases e : j = i
  ·subst e; exact hni hLj
  ·exact hni (js hb hL j hLj hj i (rR hs hp (by omega) hj hf hg (hid.elim (fun h => Js h hm) (fun h => AD h hm)))).1
theorem Mid.next (hM : Mid C ops st fs L R H F) {i : Nat} {o : Oper} (ho : ops[i]? = some o) (hni : ¬ L i) {x : AV} {H1' : Hs} (hx : (st (i + 1)).regs = aK (st i).regs o.dst x)
  (hm : ∀ id, tY fs i id → H1' id = (st (i + 1)).homes id) (hnm : ∀ id, ¬ tY fs i id → H1' id = H id) :
  Mid C ops st fs (fun j => L j ∨ j = i) (aK R o.dst x) H1' (AF F (st i).next (st (i + 1)).next) := by
 have hi : i < ops.size := (Array.getElem?_eq_some_iff.1 ho).1
 have hstR : ∀ t, ∀ a b, a ≤ b → b ≤ ops.size → (∀ j, a ≤ j → j < b → ¬ uB ops j t) → (st b).regs t = (st a).regs t := fun t =>
  re (g := fun k => (st k).regs t) (p := fun j => uB ops j t) (fun j hj hw => Do hs hj hw)
 have hstH : ∀ id, ∀ a b, a ≤ b → b ≤ ops.size → (∀ j, a ≤ j → j < b → ¬ tY fs j id) → (st b).homes id = (st a).homes id := fun id =>
  re (g := fun k => (st k).homes id) (p := fun j => tY fs j id) (fun j hj hw => BF hs hj hw)
 refine ⟨fun t k hk h1 h2 => ?_, fun id k hk h1 h2 => ?_, fun id => ?_⟩
 ·by_cases hw : o.dst = some t
  ·have hik : i < k := by
    refine Classical.byContradiction fun hn => ?_
    exact h2 i (by omega) hi ⟨o, ho, hw⟩ (.inr rfl)
   rw [hstR t (i + 1) k hik hk ?_]
   ·rw [hx, hw]; simp [aK, upd]
   ·rintro j hij hjk ⟨y, hy, hd⟩
    rcases h1 j hjk ⟨y, hy, hd⟩ with h3 | h3
    ·exact hni (js hb hL j h3 (by omega) i (CL ht (by omega) (by omega) hy ho (.inl ⟨hd, .inl hw⟩))).1
    ·omega
  ·rw [BE hw]
   refine hM.regs t k hk ?_ ?_
   ·intro j hj hwj
    rcases h1 j hj hwj with h3 | rfl
    ·exact h3
    ·obtain ⟨y, hy, hd⟩ := hwj
     rw [ho] at hy; cases hy; exact absurd hd hw
   ·exact fun j hkj hj hwj hLj => h2 j hkj hj hwj (.inl hLj)
 ·by_cases hw : tY fs i id
  ·have hik : i < k := by
    refine Classical.byContradiction fun hn => ?_
    exact h2 i (by omega) hi hw (.inr rfl)
   rw [hm id hw, hstH id (i + 1) k hik hk ?_]
   rintro j hij hjk ⟨g, hg, hmj⟩
   rcases h1 j hjk ⟨g, hg, hmj⟩ with h3 | h3
   ·obtain ⟨f, hf, hmi⟩ := hw
    exact hni (js hb hL j h3 (by omega) i (rR hs hp (by omega) (by omega) hf hg (AD hmi hmj))).1
   ·omega
  ·rw [hnm id hw]
   refine hM.homes id k hk ?_ ?_
   ·intro j hj hwj
    rcases h1 j hj hwj with h3 | rfl
    ·exact h3
    ·exact absurd hwj hw
   ·exact fun j hkj hj hwj hLj => h2 j hkj hj hwj (.inl hLj)
 ·unfold AF
  rw [hM.free]
  constructor
  ·rintro ⟨⟨h1, h2⟩, h3⟩
   refine ⟨h1, fun j hj hLj => ?_⟩
   rcases hLj with hLj | rfl
   ·exact h2 j hj hLj
   ·exact h3
  ·rintro ⟨h1, h2⟩
   exact ⟨⟨h1, fun j hj hLj => h2 j hj (.inl hLj)⟩, h2 i hi (.inr rfl)⟩
theorem Mid.room (hM : Mid C ops st fs L R H F) {i : Nat} {o : Oper} (ho : ops[i]? = some o) (hni : ¬ L i) (hpre : ∀ j, j ∈ (dP ops.toList).getD i [] → L j) :
  (∀ id, (st i).next ≤ id → id < (st (i + 1)).next → F id) ∧ ∀ f, fs[i]? = some f → (∀ id, f.md id) → ∀ id, F id ↔ (st i).next ≤ id := by
 have _ := ht
 have hi : i < ops.size := (Array.getElem?_eq_some_iff.1 ho).1
 refine ⟨fun id h1 h2 => (hM.free id).2 ⟨Nat.le_trans (kR hs 0 i (by omega) (by omega)) h1, fun j hj hLj => ?_⟩, fun f hf hmd id => ⟨fun hF => ?_, fun h1 => ?_⟩⟩
 ·rcases Nat.lt_trichotomy j i with h3 | h3 | h3
  ·exact .inr (Nat.le_trans (kR hs (j + 1) i (by omega) (by omega)) h1)
  ·subst h3; exact absurd hLj hni
  ·exact .inl (Nat.lt_of_lt_of_le h2 (kR hs (i + 1) j (by omega) (by omega)))
 ·obtain ⟨h1, h2⟩ := (hM.free id).1 hF
  refine Classical.byContradiction fun hn => ?_
  obtain ⟨j, hji, h3, h4⟩ := F0 st ops i (by omega) h1 (by omega)
  have hgj : ∃ g, fs[j]? = some g := by
   rcases hs j _ (by simp [show j < ops.size by omega] : ops[j]? = some (ops[j]'(by omega))) with ⟨_, _, h⟩ | ⟨_, _, _, _, _, _, _, h, _⟩ <;> exact ⟨_, h⟩
  obtain ⟨g, hg⟩ := hgj
  have hne : ¬ ∀ id, ¬ g.md id := fun e => by have := (xG hs (by omega : j < ops.size)).2 g hg e; omega
  have hLj := hpre j (rR hs hp hji hi hg hf (Jq hne hmd))
  have := h2 j (by omega) hLj
  omega
 ·refine (hM.free id).2 ⟨Nat.le_trans (kR hs 0 i (by omega) (by omega)) h1, fun j hj hLj => ?_⟩
  rcases Nat.lt_trichotomy j i with h3 | h3 | h3
  ·exact .inr (Nat.le_trans (kR hs (j + 1) i (by omega) (by omega)) h1)
  ·subst h3; exact absurd hLj hni
  ·refine Classical.byContradiction fun hn => ?_
   have hgj : ∃ g, fs[j]? = some g := by
    rcases hs j _ (by simp [hj] : ops[j]? = some ops[j]) with ⟨_, _, h⟩ | ⟨_, _, _, _, _, _, _, h, _⟩ <;> exact ⟨_, h⟩
   obtain ⟨g, hg⟩ := hgj
   have hne : ¬ ∀ id, ¬ g.md id := fun e => by have := (xG hs hj).2 g hg e; omega
   exact hni (js hb hL j hLj hj i (rR hs hp h3 hj hf hg (Jp hmd hne))).1
end
theorem Il (hs : ∀ i o, ops[i]? = some o → rc P C ops st fs i o) (hp : gL fs (iU ops.toList)) (ht : tw ops = true) (hb : tz ops = true)
  (hok : ∀ o ∈ ops, mb a0.tmps.size o = true) {Q : Exit → Act → World → Prop}
  (hQ : ∀ a2 w2 S2 B2, At C S0 L0 w0 a0 S w B (st ops.size).regs (st ops.size).homes (fun id => (st ops.size).next ≤ id) a2 w2 S2 B2 → Q .normal a2 w2) :
  ∀ (fuel : Nat) (listed : Array Bool), listed.size = ops.size → (List.range ops.size).countP (fun i => !listed.getD i false) ≤ fuel →
  (∀ i o, listed.getD i false = true → ops[i]? = some o → ∀ e ∈ o.after, Region.binds .any e = true → listed.getD e.on false = true) →
  ∀ {R : Nat → AV} {H : Hs} {F : Nat → Prop} {a1 : Act} {w1 : World} {S1 : Nat → Prop} {B1 : Nat → Option Pl}, Mid C ops st fs (fun i => listed.getD i false = true) R H F → At C S0 L0 w0 a0 S w B R H F a1 w1 S1 B1 →
  wpAny P .any ops Q fuel listed a1 w1 := by
 -- all is done: the end
 have done : ∀ (listed : Array Bool), (∀ i, i < ops.size → listed.getD i false = true) →
   ∀ {R : Nat → AV} {H : Hs} {F : Nat → Prop} {a1 : Act} {w1 : World} {S1 : Nat → Prop} {B1 : Nat → Option Pl}, Mid C ops st fs (fun i => listed.getD i false = true) R H F → At C S0 L0 w0 a0 S w B R H F a1 w1 S1 B1 → Q .normal a1 w1 := by
  intro listed hall R H F a1 w1 S1 B1 hM hA
  have h1 : R = (st ops.size).regs := funext fun t => hM.regs t ops.size (Nat.le_refl _) (fun j hj _ => hall j hj) (fun j h1 h2 => by omega)
  have h2 : H = (st ops.size).homes := funext fun id => hM.homes id ops.size (Nat.le_refl _) (fun j hj _ => hall j hj) (fun j h1 h2 => by omega)
  subst h1 h2
  refine hQ a1 w1 S1 B1 ⟨hA.mem.weak fun id hid => (hM.free id).2 ⟨Nat.le_trans (kR hs 0 _ (Nat.zero_le _) (Nat.le_refl _)) hid, fun j hj _ => .inr (Nat.le_trans (kR hs (j + 1) _ (by omega) (Nat.le_refl _)) hid)⟩,
   hA.regs, hA.size, hA.defers, hA.sub, hA.same, hA.ext⟩
 -- nothing is ready: all is done
 have none_ready : ∀ (listed : Array Bool), listed.size = ops.size → Region.ready .any ops listed = [] → ∀ i, i < ops.size → listed.getD i false = true := by
  intro listed hsz hr i
  induction i using Nat.strongRecOn with
  | _ i ih =>
   intro hi
   refine Classical.byContradiction fun hn => ?_
   have : i ∈ Region.ready .any ops listed := mem_ready.2 ⟨by
     have hi' : i < listed.size := by omega
     simp [hi'] at hn ⊢; exact hn, ops[i], by simp [hi], fun e he hbd => by
    have hlt2 : e.on < i := by
     have := List.all_eq_true.1 hb (ops[i], i) (by rw [List.mem_zipIdx_iff_getElem?]; simp [hi])
     have := List.all_eq_true.1 this e (by simpa using he)
     simpa [hbd] using this
    exact ih e.on hlt2 (by omega)⟩
   rw [hr] at this
   simp at this
 intro fuel
 induction fuel with
 | zero =>
  intro listed hsz hc hcl R H F a1 w1 S1 B1 hM hA
  have hall : ∀ i, i < ops.size → listed.getD i false = true := by
   intro i hi
   have h0 : (List.range ops.size).countP (fun i => !listed.getD i false) = 0 := by omega
   have := List.countP_eq_zero.1 h0 i (by simpa using hi)
   simpa using this
  refine ⟨?_, done listed hall hM hA⟩
  apply List.eq_nil_iff_forall_not_mem.2
  intro i hi
  obtain ⟨h1, o, h2, _⟩ := mem_ready.1 hi
  have hlt : i < ops.size := (Array.getElem?_eq_some_iff.1 h2).1
  have := hall i hlt
  have hi' : i < listed.size := by omega
  simp [hi'] at h1 this
  rw [this] at h1; cases h1
 | succ fuel ih =>
  intro listed hsz hc hcl R H F a1 w1 S1 B1 hM hA
  refine ⟨fun hr => done listed (none_ready listed hsz hr) hM hA, fun i hi => ?_⟩
  obtain ⟨h1, o, ho, hedge⟩ := mem_ready.1 hi
  have hlt : i < ops.size := (Array.getElem?_eq_some_iff.1 ho).1
  have hlt' : i < listed.size := by omega
  have hni : ¬ listed.getD i false = true := by simp [hlt'] at h1 ⊢; exact h1
  have hcl' : ∀ k o', (listed.setIfInBounds i true).getD k false = true → ops[k]? = some o' → ∀ e ∈ o'.after, Region.binds .any e = true → (listed.setIfInBounds i true).getD e.on false = true := by
   intro k o' hk ho' e he hbd
   by_cases e1 : i = k
   ·subst e1
    rw [ho] at ho'; cases ho'
    exact getD_set_true (hedge e he hbd)
   ·rw [getD_set_ne false e1] at hk
    exact getD_set_true (hcl k o' hk ho' e he hbd)
  have hpre : ∀ j, j ∈ (dP ops.toList).getD i [] → listed.getD j false = true := by
   intro j hj
   have h2 := js hb (L := fun k => (listed.setIfInBounds i true).getD k false = true) hcl' i (by simp [hlt']) hlt j hj
   rw [getD_set_ne false (by omega : i ≠ j)] at h2
   exact h2.1
  have hset : (fun k => (listed.setIfInBounds i true).getD k false = true) = fun k => listed.getD k false = true ∨ k = i := by
   funext k
   by_cases e1 : i = k
   ·subst e1; simp [hlt']
   ·rw [getD_set_ne false e1]
    have : ¬ k = i := fun e => e1 e.symm
    simp [this]
  have hcount : (List.range ops.size).countP (fun k => !(listed.setIfInBounds i true).getD k false) ≤ fuel := by
   have := Dp (p := fun k => !listed.getD k false) (q := fun k => !(listed.setIfInBounds i true).getD k false) (l := List.range ops.size) (fun k _ hk => by
    by_cases e1 : i = k
    ·subst e1; simp [hlt'] at hk
    ·rw [getD_set_ne false e1] at hk; exact hk) i (by simpa using hlt) (by simpa using hni) (by simp [hlt'])
   omega
  obtain ⟨hregs, hhomes⟩ := hM.same hs hp ht hb hcl ho hni hpre
  obtain ⟨hroom, hwhole⟩ := hM.room hs hp ht hb hcl ho hni hpre
  have hoo := hok o (Array.mem_of_getElem? ho)
  unfold wpOp
  rw [ho]
  simp only
  rcases hs i o ho with ⟨hw, hst, hf⟩ | ⟨v, H1, n1, f, hw, hop, hst, hf, _⟩
  ·have hwn := nQ hA.regs (fun o ho => by rw [hA.size]; exact hok o ho) ((xH hregs).trans hw)
   simp only [hwn, Bool.false_eq_true, if_false]
   have hno : ∀ id, ¬ tY fs i id := by
    rintro id ⟨f, hf', hm⟩
    rw [hf] at hf'; cases hf'
    simp [Ft.mods, az, Ft.of] at hm
   have hM' := hM.next hs hp ht hb hcl ho hni (x := .undef) (H1' := H) (by rw [hst]) (fun id hm => absurd hm (hno id)) (fun _ _ => rfl)
   rw [← hset] at hM'
   exact ih _ (by simpa using hsz) hcount hcl' (S1 := S1) (B1 := B1) hM' <| hA.put o.dst .undef (hA.mem.weak fun id hid => hid.1) (fun _ h => h) (fun _ _ => rfl) (Ext.refl _)
  ·have hwn := nQ hA.regs (fun o ho => by rw [hA.size]; exact hok o ho) ((xH hregs).trans hw)
   simp only [hwn, if_true]
   left
   obtain ⟨hn, _, _, hS⟩ := hop
   obtain ⟨H1', hL, hS⟩ := hS (ev C ⟨R, H, 0⟩) H (fun x hx => by rw [Jt hregs x hx (H' := (st i).homes) (n' := (st i).next)]) (hhomes _ hf)
   have hM' := hM.next hs hp ht hb hcl ho hni (x := v) (H1' := H1') (by rw [hst]) (fun id ⟨f, hf', hm⟩ => by rw [hf] at hf'; cases hf'; rw [hst]; exact hL.1 id hm)
    (fun id hm => (hL.2 id fun h => hm ⟨_, hf, h⟩).1)
   rw [← hset] at hM'
   have hnext : (st (i + 1)).next = n1 := by rw [hst]
   refine hS a1 o rfl hA.mem (fun x hx => rg hA.mem hA.regs (by rw [hA.size]; exact uL hoo hx)) (fun id h1 h2 => hroom id h1 (by rw [hnext]; exact h2)) (hwhole _ hf) _ Q ?_
   intro val w2 S2 B2 hv hM2 hS2 hss hE
   rw [hnext] at hM'
   exact ih _ (by simpa using hsz) hcount hcl' hM' (hA.put o.dst hv hM2 hS2 hss hE)
end
end Go.Jv
namespace Go.Jv
def FN : Ex → Exit
 | .normal => .normal
 | .exit id => .exit id
 | .ret => .ret
def qd (P : Program) (c : Code) (Q : Exit → Act → World → Prop) (a : Act) (w : World) : Prop :=
 ∀ (b : Frame) (k : List Item) (cs : List Frame), ∃ e a' w', Q e a' w' ∧ Arrives P (lone (b.at a (.code c :: .inLoop c :: k)) cs w) b k cs e a' w'
theorem qd.wp {P : Program} {c : Code} {Q : Exit → Act → World → Prop} {a : Act} {w : World} (h : qd P c Q a w) : (Code.loop c).wp P Q a w :=
 fun b k cs => let ⟨e, a', w', hq, harr⟩ := h b k cs; ⟨e, a', w', hq, .of_steps (.one step_loop) harr⟩
theorem qd.round {P : Program} {c : Code} {Q : Exit → Act → World → Prop} {a : Act} {w : World} (h : c.wp P (Exit.then (qd P c Q) Q) a w) : qd P c Q a w := by
 intro b k cs
 obtain ⟨e, a₁, w₁, hq, harr⟩ := h b (.inLoop c :: k) cs
 cases e with
 | normal =>
  obtain ⟨e₂, a₂, w₂, hq₂, harr₂⟩ := hq b k cs
  exact ⟨e₂, a₂, w₂, hq₂, .of_steps (Steps.trans harr (.one step_inLoop)) harr₂⟩
 | exit id => exact ⟨_, a₁, w₁, hq, .pass (x := .inLoop c) rfl (fun _ _ => .inl (by simp)) harr⟩
 | goto l => exact ⟨_, a₁, w₁, hq, .pass (x := .inLoop c) rfl (fun _ _ => .inl (by simp)) harr⟩
 | ret => exact ⟨_, a₁, w₁, hq, .pass (x := .inLoop c) rfl (fun _ _ => .inl (by simp)) harr⟩
 | panic ch => exact ⟨_, a₁, w₁, hq, .pass (x := .inLoop c) rfl (fun _ _ => .inl (by simp)) harr⟩
 | outgrown => exact ⟨_, a₁, w₁, hq, .pass (x := .inLoop c) rfl (fun _ _ => .inl (by simp)) harr⟩
structure Fwd (s s' : St) : Prop where
 next : s.next ≤ s'.next
 dead : ∀ id, id < s.next → s.homes id = .dead → s'.homes id = .dead
theorem Fwd.refl (s : St) : Fwd s s := ⟨Nat.le_refl _, fun _ _ h => h⟩
theorem Fwd.trans {s s' s'' : St} (h : Fwd s s') (k : Fwd s' s'') : Fwd s s'' := ⟨Nat.le_trans h.next k.next, fun id hi hd => k.dead id (Nat.lt_of_lt_of_le hi h.next) (h.dead id hi hd)⟩
def yx (P : Program) (C : Cfg) (c : Code) (s : St) (r : Ex × St) : Prop :=
 Fwd s r.2 ∧ ∀ {S0 : Nat → Prop} {L0 : Lz} {w0 : World} {a0 : Act} {S : Nat → Prop} {w : World} {B : Nat → Option Pl} {a1 : Act} {w1 : World} {S1 : Nat → Prop} {B1 : Nat → Option Pl},
  di a0.tmps.size c = true → At C S0 L0 w0 a0 S w B s.regs s.homes (fun id => s.next ≤ id) a1 w1 S1 B1 → ∀ (Q : Exit → Act → World → Prop),
  (∀ a2 w2 S2 B2, At C S0 L0 w0 a0 S w B r.2.regs r.2.homes (fun id => r.2.next ≤ id) a2 w2 S2 B2 → Q (FN r.1) a2 w2) →
  c.wp P Q a1 w1 ∧ ∀ body, c = .loop body → qd P body Q a1 w1
section
variable {P : Program} {C : Cfg} {S0 : Nat → Prop} {L0 : Lz} {w0 : World} {S : Nat → Prop} {B : Nat → Option Pl} {H : Hs} {F : Nat → Prop} {nx : Nat} {w : World}
theorem Tr.fwd {ops : Array Oper} {l : List Oper} {s : St} {fs : List Ft} {s' : St} (hT : Tr P C ops l s fs s') : Fwd s s' := by
 induction hT with
 | nil => exact .refl _
 | skip o rest s fs s' hw h ih => exact ⟨ih.next, ih.dead⟩
 | go o rest s v H1 n1 f fs s' hw ho _ h ih => exact Fwd.trans (s' := { regs := aK s.regs o.dst v, homes := H1, next := n1 }) ⟨ho.1, ho.2.1⟩ ih
theorem DL (V : ca P C) {id : Nat} {ops : Array Oper} {s s' : St} {fs : List Ft} (hT : Tr P C ops ops.toList s fs s') (hp : gL fs (iU ops.toList)) (hd : jQ ops = true)
  {a0 a1 : Act} {w1 : World} {S1 : Nat → Prop} {B1 : Nat → Option Pl} (hok : di a0.tmps.size (.region id ops true) = true) (hA : At C S0 L0 w0 a0 S w B s.regs s.homes (fun id => s.next ≤ id) a1 w1 S1 B1)
  (Q : Exit → Act → World → Prop) (hQ : ∀ a2 w2 S2 B2, At C S0 L0 w0 a0 S w B s'.regs s'.homes (fun id => s'.next ≤ id) a2 w2 S2 B2 → Q .normal a2 w2) : (Code.region id ops true).wp P Q a1 w1 := by
 obtain ⟨st, h0, hn, hs⟩ := hT.trace
 have hs' : ∀ (i : Nat) o, ops[i]? = some o → rc P C ops st fs i o := fun i o h => hs i o (by simpa using h)
 simp only [jQ, Bool.and_eq_true] at hd
 have hn' : st ops.size = s' := by simpa using hn
 subst hn'
 subst h0
 refine wp_region_any V.mixed ?_
 have hA' : At C S0 L0 w0 a0 S w B (st 0).regs (st 0).homes (fun id => (st 0).next ≤ id) a1 w1.drew S1 B1 :=
  ⟨hA.mem.drew, hA.regs.mono (fun _ h => h) (fun _ _ => rfl) (Ext.refl _), hA.size, hA.defers, hA.sub, hA.same, hA.ext⟩
 refine Il hs' hp hd.2 hd.1 (fun o ho => ?_) hQ ops.size _ (by simp) (Nat.le_trans List.countP_le_length (by simp)) (fun i o h => ?_) ?_ hA'
 ·simp only [di] at hok
  exact Array.all_eq_true_iff_forall_mem.1 hok o ho
 ·exfalso
  by_cases hi : i < ops.size <;> simp [hi] at h
 ·have hno : ∀ i, ¬ (Array.replicate ops.size false).getD i false = true := fun i h => by
   by_cases hi : i < ops.size <;> simp [hi] at h
  refine ⟨fun t k hk h1 _ => ?_, fun id k hk h1 _ => ?_, fun id => ?_⟩
  ·exact (re (g := fun k => (st k).regs t) (p := fun j => uB ops j t) (fun j hj hw => Do hs' hj hw) 0 k (Nat.zero_le _) hk (fun j _ hj hw => hno j (h1 j hj hw))).symm
  ·exact (re (g := fun k => (st k).homes id) (p := fun j => tY fs j id) (fun j hj hw => BF hs' hj hw) 0 k (Nat.zero_le _) hk (fun j _ hj hw => hno j (h1 j hj hw))).symm
  ·exact ⟨fun h => ⟨h, fun j _ hj => absurd hj (hno j)⟩, fun h => h.1⟩
theorem Gx (fs : List Ft) {ps : List (Nat × Nat)} (h : ps.isEmpty = true) : gL fs ps := by
 cases ps with
 | nil => intro p hp; simp at hp
 | cons => cases h
theorem J9 (V : ca P C) {runC' : Code → St → Option (Ex × St)} {runFts' : Array Oper → List Oper → St → Option (List Ft × St)} {runOps' : Array Oper → List Oper → St → Option St}
  (hC : ∀ c s r, runC' c s = some r → yx P C c s r) (hF : ∀ ops l s r, runFts' ops l s = some r → Tr P C ops l s r.1 r.2) (hO : ∀ ops l s r, runOps' ops l s = some r → ∃ fs, Tr P C ops l s fs r)
  {c : Code} {s : St} {r : Ex × St}
  (h : (match c with
   | .skip => some (.normal, s)
   | .ret => some (.ret, s)
   | .exit id => some (.exit id, s)
   | .region _ ops draw =>
    if draw = true then
     if jQ ops = true then
      if (iU ops.toList).isEmpty = true then do
       let s' ← runOps' ops ops.toList s
       some (.normal, s')
      else do
       let __x ← runFts' ops ops.toList s
       match __x with
       | (fs, s') => do
        ml (gL fs (iU ops.toList))
        some (.normal, s')
     else none
    else do
     let s' ← runOps' ops ops.toList s
     some (.normal, s')
   | .seq a b => do
    let __x ← runC' a s
    match __x with
    | (e, s1) => match e with
     | .normal => runC' b s1
     | e => some (e, s1)
   | .cond x a b =>
    match ev C s x with
    | .d (.bool true) => runC' a s
    | .d (.bool false) => runC' b s
    | _ => none
   | .block id a => do
    let __x ← runC' a s
    match __x with
    | (e, s1) => match e with
     | .exit id' => if id' = id then some (.normal, s1) else some (.exit id', s1)
     | e => some (e, s1)
   | .loop a => do
    let __x ← runC' a s
    match __x with
    | (e, s1) => match e with
     | .normal => runC' (.loop a) s1
     | e => some (e, s1)
   | _ => none) = some r) : yx P C c s r := by
 split at h
 ·cases h
  exact ⟨.refl _, fun hok hA Q hQ => ⟨wp_skip (hQ _ _ _ _ hA), fun _ h => by cases h⟩⟩
 ·cases h
  exact ⟨.refl _, fun hok hA Q hQ => ⟨wp_ret (hQ _ _ _ _ hA), fun _ h => by cases h⟩⟩
 ·cases h
  exact ⟨.refl _, fun hok hA Q hQ => ⟨wp_exit (hQ _ _ _ _ hA), fun _ h => by cases h⟩⟩
 ·rename_i id ops draw
  split at h
  ·rename_i hdr
   subst hdr
   split at h
   ·rename_i hst
    split at h
    ·rename_i hun
     obtain ⟨s', h1, h2⟩ := Option.bind_eq_some_iff.1 h
     cases h2
     obtain ⟨fs, hT⟩ := hO _ _ _ _ h1
     exact ⟨hT.fwd, fun hok hA Q hQ => ⟨DL V hT (Gx fs hun) hst hok hA Q hQ, fun _ h => by cases h⟩⟩
    ·obtain ⟨⟨fs, s'⟩, h1, h2⟩ := Option.bind_eq_some_iff.1 h
     simp only at h2
     obtain ⟨_, hg, h2⟩ := Option.bind_eq_some_iff.1 h2
     have hp := AL hg
     cases h2
     have hT := hF _ _ _ _ h1
     exact ⟨hT.fwd, fun hok hA Q hQ => ⟨DL V hT hp hst hok hA Q hQ, fun _ h => by cases h⟩⟩
   ·cases h
  ·rename_i hdr
   have hdr : draw = false := by simpa using hdr
   subst hdr
   obtain ⟨s', h1, h2⟩ := Option.bind_eq_some_iff.1 h
   cases h2
   obtain ⟨fs, hT⟩ := hO _ _ _ _ h1
   refine ⟨hT.fwd, fun hok hA Q hQ => ⟨wp_region ?_, fun _ h => by cases h⟩⟩
   have := hT.wp (fun o ho => by simp only [di] at hok; exact Array.all_eq_true_iff_forall_mem.1 hok o ho) (Q := Q) 0 (by simp) hA hQ
   rw [List.range_eq_range']
   simpa using this
 ·rename_i a b
  obtain ⟨⟨e, s1⟩, h1, h2⟩ := Option.bind_eq_some_iff.1 h
  obtain ⟨hn1, hA1⟩ := hC _ _ _ h1
  simp only at h2
  split at h2
  ·obtain ⟨hn2, hA2⟩ := hC _ _ _ h2
   refine ⟨hn1.trans hn2, fun hok hA Q hQ => ⟨wp_seq ?_, fun _ h => by cases h⟩⟩
   simp only [di, Bool.and_eq_true] at hok
   exact (hA1 hok.1 hA _ fun a2 w2 S2 B2 hA' => (hA2 hok.2 hA' Q hQ).1).1
  ·rename_i hne
   cases h2
   refine ⟨hn1, fun hok hA Q hQ => ⟨wp_seq ?_, fun _ h => by cases h⟩⟩
   simp only [di, Bool.and_eq_true] at hok
   refine (hA1 hok.1 hA _ fun a2 w2 S2 B2 hA' => ?_).1
   have := hQ a2 w2 S2 B2 hA'
   cases e with
   | normal => exact absurd rfl hne
   | _ => exact this
 ·rename_i x a b
  split at h
  ·rename_i hx
   obtain ⟨hn1, hA1⟩ := hC _ _ _ h
   refine ⟨hn1, fun hok hA Q hQ => ⟨?_, fun _ h => by cases h⟩⟩
   simp only [di, Bool.and_eq_true] at hok
   have hv := rg (x := x) hA.mem hA.regs (by rw [hA.size]; exact hok.1.1) (H' := s.homes) (nx := s.next)
   rw [show (⟨s.regs, s.homes, s.next⟩ : St) = s from rfl, hx] at hv
   exact wp_cond_true hv.dV.boolV (hA1 hok.1.2 hA Q hQ).1
  ·rename_i hx
   obtain ⟨hn1, hA1⟩ := hC _ _ _ h
   refine ⟨hn1, fun hok hA Q hQ => ⟨?_, fun _ h => by cases h⟩⟩
   simp only [di, Bool.and_eq_true] at hok
   have hv := rg (x := x) hA.mem hA.regs (by rw [hA.size]; exact hok.1.1) (H' := s.homes) (nx := s.next)
   rw [show (⟨s.regs, s.homes, s.next⟩ : St) = s from rfl, hx] at hv
   exact wp_cond_false hv.dV.boolV (hA1 hok.2 hA Q hQ).1
  ·cases h
 ·rename_i id a
  obtain ⟨⟨e, s1⟩, h1, h2⟩ := Option.bind_eq_some_iff.1 h
  obtain ⟨hn1, hA1⟩ := hC _ _ _ h1
  simp only at h2
  split at h2
  ·rename_i id'
   split at h2
   ·rename_i hid
    cases h2
    refine ⟨hn1, fun hok hA Q hQ => ⟨wp_block (hA1 (by simpa [di] using hok) hA _ fun a2 w2 S2 B2 hA' => ?_).1, fun _ h => by cases h⟩⟩
    simp only [FN, Exit.inBlock, hid, if_true]
    exact hQ a2 w2 S2 B2 hA'
   ·rename_i hid
    cases h2
    refine ⟨hn1, fun hok hA Q hQ => ⟨wp_block (hA1 (by simpa [di] using hok) hA _ fun a2 w2 S2 B2 hA' => ?_).1, fun _ h => by cases h⟩⟩
    simp only [FN, Exit.inBlock, hid, if_false]
    exact hQ a2 w2 S2 B2 hA'
  ·rename_i hne
   cases h2
   refine ⟨hn1, fun hok hA Q hQ => ⟨wp_block (hA1 (by simpa [di] using hok) hA _ fun a2 w2 S2 B2 hA' => ?_).1, fun _ h => by cases h⟩⟩
   have := hQ a2 w2 S2 B2 hA'
   cases e with
   | exit id' => exact absurd rfl (hne id')
   | _ => exact this
 ·rename_i a
  obtain ⟨⟨e, s1⟩, h1, h2⟩ := Option.bind_eq_some_iff.1 h
  obtain ⟨hn1, hA1⟩ := hC _ _ _ h1
  simp only at h2
  have fin : ∀ {a1 : Act} {w1 : World} {Q : Exit → Act → World → Prop}, qd P a Q a1 w1 → (Code.loop a).wp P Q a1 w1 ∧ ∀ body, Code.loop a = .loop body → qd P body Q a1 w1 :=
   fun h => ⟨h.wp, fun body hb => by cases hb; exact h⟩
  split at h2
  ·obtain ⟨hn2, hA2⟩ := hC _ _ _ h2
   refine ⟨hn1.trans hn2, fun hok hA Q hQ => fin (.round ?_)⟩
   exact (hA1 (by simpa [di] using hok) hA _ fun a2 w2 S2 B2 hA' => (hA2 hok hA' Q hQ).2 a rfl).1
  ·rename_i hne
   cases h2
   refine ⟨hn1, fun hok hA Q hQ => fin (.round ?_)⟩
   refine (hA1 (by simpa [di] using hok) hA _ fun a2 w2 S2 B2 hA' => ?_).1
   have := hQ a2 w2 S2 B2 hA'
   cases e with
   | normal => exact absurd rfl hne
   | _ => exact this
 ·cases h
end
end Go.Jv
namespace Go.Jv
section
variable {P : Program} {C : Cfg} {S0 : Nat → Prop} {L0 : Lz} {w0 : World} {S : Nat → Prop} {B : Nat → Option Pl} {H : Hs} {F : Nat → Prop} {nx : Nat} {w : World}
def D0 (tmps : Array Value) : ResultVar → Sem Value
 | .tmp t => pure (tmps.getD t Go.undef)
 | .cell a t => do loadVar t (← asAddr (tmps.getD a Go.undef))
def C4 (us : Array Value) : Value := if h : us.size = 1 then us[0] else .tuple us
theorem HL (fn : Func) (tmps : Array Value) : results fn tmps = (do pure (C4 (← fn.results.mapM (D0 tmps)))) := rfl
theorem vS (V : ca P C) {s : St} {tmps : Array Value} (hM : Mem C S0 L0 w0 S B s.homes F w) (hR : ln S w B s.regs tmps) : ∀ {l : List ResultVar} {vs : List AV}, (∀ r ∈ l, td tmps.size r = true) → cF C s l = some vs →
  ∃ us : List Value, (l.mapM (D0 tmps)).run P w = .ok us w ∧ us.length = vs.length ∧ ∀ (i : Nat) x u, vs[i]? = some x → us[i]? = some u → AVR S w B x u
 | [], vs, _, h => by
  simp only [cF, Option.some.injEq] at h
  subst h
  exact ⟨[], by simp, rfl, fun i x u hx => by simp at hx⟩
 | .tmp t :: l, vs, hok, h => by
  simp only [cF] at h
  obtain ⟨vs', h1, rfl⟩ := Option.map_eq_some_iff.1 h
  obtain ⟨us, h2, h3, h4⟩ := vS V hM hR (fun r hr => hok r (by simp [hr])) h1
  have ht : t < tmps.size := by simpa [td] using hok (.tmp t) (by simp)
  refine ⟨tmps.getD t Go.undef :: us, by simp [List.mapM_cons, D0, h2], by simp [h3], fun i x u hx hu => ?_⟩
  match i with
  | 0 => simp only [List.getElem?_cons_zero, Option.some.injEq] at hx hu; subst hx hu; exact hR t ht
  | i + 1 => exact h4 i x u (by simpa using hx) (by simpa using hu)
 | .cell a t :: l, vs, hok, h => by
  simp only [cF] at h
  split at h
  ·rename_i v vs' hl h1
   cases h
   obtain ⟨us, h2, h3, h4⟩ := vS V hM hR (fun r hr => hok r (by simp [hr])) h1
   have ht : a < tmps.size := by simpa [td] using hok (.cell a t) (by simp)
   obtain ⟨u, hu, hv⟩ := B9 V hM (hR a ht) hl
   have key : (D0 tmps (.cell a t)).run P w = .ok u w := by
    unfold Instr.loadAt at hu
    show Sem.run P (do loadVar t (← asAddr (tmps.getD a Go.undef))) w = _
    generalize tmps.getD a Go.undef = pv at hu ⊢
    cases pv with
    | pointer o => cases o with
     | some ad => simpa [Instr.sureAddr, asAddr] using hu
     | none => simp [Instr.sureAddr, stuck] at hu
    | _ => simp [Instr.sureAddr, stuck] at hu
   refine ⟨u :: us, by simp [List.mapM_cons, key, h2], by simp [h3], fun i x u' hx hu' => ?_⟩
   match i with
   | 0 => simp only [List.getElem?_cons_zero, Option.some.injEq] at hx hu'; subst hx hu'; exact hv
   | i + 1 => exact h4 i x u' (by simpa using hx) (by simpa using hu')
  ·cases h
theorem wu (V : ca P C) {s : St} {tmps : Array Value} (hM : Mem C S0 L0 w0 S B s.homes F w) (hR : ln S w B s.regs tmps) {fn : Func} {vs : List AV} (hok : fn.results.all (td tmps.size) = true)
  (h : cF C s fn.results.toList = some vs) :
  ∃ us : List Value, (results fn tmps).run P w = .ok (C4 us.toArray) w ∧ us.length = vs.length ∧ ∀ (i : Nat) x u, vs[i]? = some x → us[i]? = some u → AVR S w B x u := by
 obtain ⟨us, h1, h2, h3⟩ := vS V hM hR (fun r hr => Array.all_eq_true_iff_forall_mem.1 hok r (by simpa using hr)) h
 refine ⟨us, ?_, h2, h3⟩
 rw [HL]
 have : fn.results.mapM (D0 tmps) = List.toArray <$> fn.results.toList.mapM (D0 tmps) := by
  rw [← List.mapM_toArray]
 rw [this]
 simp [h1]
theorem Ah {vs : List AV} {us : List Value} (hl : us.length = vs.length) (hv : ∀ (i : Nat) x u, vs[i]? = some x → us[i]? = some u → AVR S w B x u) : AVR S w B (dv vs) (C4 us.toArray) := by
 match vs, us, hl with
 | [v], [u], _ => exact hv 0 v u rfl rfl
 | [], [], _ => exact .tup [] #[] rfl fun j c u hj => by simp at hj
 | v :: v' :: vs, u :: u' :: us, hl =>
  have : C4 (u :: u' :: us).toArray = .tuple (u :: u' :: us).toArray := by simp [C4]
  rw [this]
  exact .tup _ _ (by simpa using hl.symm) fun j c u hj hu => hv j c u hj (by simpa using hu)
theorem Mem.init (hlt : ∀ b, S b → b < w.heap.size) (hg : ∀ g cs, C.glob g = some cs → VR S w (.ptr cs) (.pointer (some ⟨g, 0, none⟩))) : Mem C S ⟨fun _ => False, fun _ => none⟩ w S noB (fun _ => .dead) F w :=
 ⟨fun _ => .dead, fun _ _ => rfl, fun _ _ => rfl, fun _ _ _ _ h => by simp [dq.live] at h, fun _ _ h => by simp [dq.live] at h, hlt, hg, rfl, rfl, rfl, Nat.le_refl _, fun _ _ _ => rfl, fun _ h => h,
  fun _ _ h => by simp [dq.live] at h, fun _ h => .inl h, fun _ _ h => (by cases h), fun _ _ => rfl⟩
theorem Ai {n m : Nat} (h : n ≤ m) {x : Operand} (hx : nN n x = true) : nN m x = true := by
 cases x with
 | tmp t => simp only [nN, decide_eq_true_eq] at hx ⊢; exact Nat.lt_of_lt_of_le hx h
 | _ => exact hx
theorem Gp {n m : Nat} (h : n ≤ m) {o : Oper} (ho : mb n o = true) : mb m o = true := by
 simp only [mb, Bool.and_eq_true] at ho ⊢
 refine ⟨Array.all_eq_true_iff_forall_mem.2 fun x hx => Ai h (Array.all_eq_true_iff_forall_mem.1 ho.1 x hx), ?_⟩
 have := ho.2
 split
 ·rename_i t hd; rw [hd] at this; simp only [decide_eq_true_eq] at this ⊢; exact Nat.lt_of_lt_of_le this h
 ·rfl
theorem hU {n m : Nat} (h : n ≤ m) : ∀ {c : Code}, di n c = true → di m c = true
 | .region _ ops _, hc => by
  simp only [di] at hc ⊢
  exact Array.all_eq_true_iff_forall_mem.2 fun x hx => Gp h (Array.all_eq_true_iff_forall_mem.1 hc x hx)
 | .seq a b, hc => by
  simp only [di, Bool.and_eq_true] at hc ⊢
  exact ⟨hU h hc.1, hU h hc.2⟩
 | .cond x a b, hc => by
  simp only [di, Bool.and_eq_true] at hc ⊢
  exact ⟨⟨Ai h hc.1.1, hU h hc.1.2⟩, hU h hc.2⟩
 | .block _ a, hc => by simp only [di] at hc ⊢; exact hU h hc
 | .loop a, hc => by simp only [di] at hc ⊢; exact hU h hc
 | .skip, _ => rfl
 | .ret, _ => rfl
 | .exit _, _ => rfl
 | .rangeFunc .., _ => rfl
 | .scope _, _ => rfl
 | .label _, _ => rfl
 | .goto _, _ => rfl
 | .refuse _, _ => rfl
theorem C5 {n m : Nat} (h : n ≤ m) {rs : Array ResultVar} (hr : rs.all (td n) = true) : rs.all (td m) = true :=
 Array.all_eq_true_iff_forall_mem.2 fun x hx => by
  have := Array.all_eq_true_iff_forall_mem.1 hr x hx
  cases x <;> (simp only [td, decide_eq_true_eq] at this ⊢; exact Nat.lt_of_lt_of_le this h)
def gQ (fn : Func) (args : Array Value) : Act := { tmps := args ++ Array.replicate (fn.ntmps - args.size) undef, defers := [] }
theorem rl (fn : Func) (args : Array Value) : fn.ntmps ≤ (gQ fn args).tmps.size := by simp [gQ]; omega
theorem C6 {fn : Func} {args : Array Value} {vs : List AV} (hs : args.size = vs.length) (hv : ∀ (i : Nat) x u, vs[i]? = some x → args[i]? = some u → AVR S w B x u) :
  ln S w B (fun i => if i < vs.length then vs.getD i default else .undef) (gQ fn args).tmps := by
 intro i hi
 show AVR S w B (if i < vs.length then vs.getD i default else .undef) _
 by_cases h : i < vs.length
 ·rw [if_pos h]
  have h1 : vs[i]? = some (vs.getD i default) := by simp [h]
  have h2 : args[i]? = some ((gQ fn args).tmps.getD i Go.undef) := by
   have : i < args.size := by omega
   simp [gQ, Array.getElem?_append_left this, this]
  exact hv i _ _ h1 h2
 ·rw [if_neg h]
  have h2 : (gQ fn args).tmps.getD i Go.undef = Go.undef := by
   have h3 : args.size ≤ i := by omega
   simp only [gQ, Array.getD_eq_getD_getElem?, Array.getElem?_append_right h3]
   rw [Array.getElem?_replicate]
   split <;> rfl
  rw [h2]
  exact .undef
theorem HM (V : ca P C) {runC' : Code → St → Option (Ex × St)} (hC : ∀ c s r, runC' c s = some r → yx P C c s r) {f : FuncId} {vs : List AV} {H : Hs} {nx : Nat} {r : List AV × Hs × Nat}
  (h : (match C.fn f with
   | none => none
   | some F =>
    match F.body with
    | none => none
    | some code => do
     let __x ← runC' code { regs := fun i => if i < vs.length then vs.getD i default else .undef, homes := H, next := nx }
     match __x with
     | (e, s) => match e with
      | .exit _ => none
      | _ => (cF C s F.results.toList).map fun rs => (rs, s.homes, s.next)) = some r) : Bb P C f vs H nx r := by
 split at h
 ·cases h
 ·rename_i fn hfn
  obtain ⟨hf, hok, hnm⟩ := V.fn f fn hfn
  split at h
  ·cases h
  ·rename_i code hb
   obtain ⟨⟨e, s⟩, h1, h2⟩ := Option.bind_eq_some_iff.1 h
   obtain ⟨hn, hA⟩ := hC _ _ _ h1
   simp only [BJ, hb, Bool.and_eq_true] at hok
   refine ⟨⟨fn, hf, by rw [hb]; rfl, hnm⟩, ?_⟩
   have key : (∀ id, e ≠ .exit id) → (cF C s fn.results.toList).map (fun rs => (rs, s.homes, s.next)) = some r → nx ≤ r.2.2 ∧ (∀ id, id < nx → H id = .dead → r.2.1 id = .dead) ∧ ∀ (S0 : Nat → Prop) (L0 : Lz) (w0 : World) (S : Nat → Prop) (B : Nat → Option Pl) (w : World) (args : Array Value), Mem C S0 L0 w0 S B H (fun id => nx ≤ id) w →
     args.size = vs.length → (∀ (i : Nat) x u, vs[i]? = some x → args[i]? = some u → AVR S w B x u) →
     Calls P f args w (EE fun v w1 => ∃ S1 B1, AVR S1 w1 B1 (dv r.1) v ∧ Mem C S0 L0 w0 S1 B1 r.2.1 (fun id => r.2.2 ≤ id) w1 ∧ (∀ b, S b → S1 b) ∧ gn S w w1 ∧ Ext B B1) := by
    intro hne h2
    obtain ⟨rs, h3, rfl⟩ := Option.map_eq_some_iff.1 h2
    refine ⟨hn.next, hn.dead, fun S0 L0 w0 S B w args hM hs hv => calls_of_wp hf hb ?_⟩
    refine (hA (a0 := gQ fn args) (a1 := gQ fn args) (w := w) (S := S) (B := B) (hU (rl ..) hok.1) ⟨hM, C6 hs hv, rfl, rfl, fun _ h => h, fun _ _ => rfl, Ext.refl _⟩ _ ?_).1
    intro a2 w2 S2 B2 hA2
    obtain ⟨us, h4, h5, h6⟩ := wu V hA2.mem hA2.regs (C5 (by rw [hA2.size]; exact rl ..) hok.2) h3
    have fin : a2.defers = [] ∧ ∃ v, (results fn a2.tmps).run P w2 = .ok v w2 ∧ EE (fun v w1 => ∃ S1 B1, AVR S1 w1 B1 (dv rs) v ∧ Mem C S0 L0 w0 S1 B1 s.homes (fun id => s.next ≤ id) w1 ∧ (∀ b, S b → S1 b) ∧ gn S w w1 ∧ Ext B B1) (.returned v) w2 :=
     ⟨hA2.defers, _, h4, S2, B2, Ah h5 h6, hA2.mem, hA2.sub, hA2.same, hA2.ext⟩
    cases e with
    | exit id => exact absurd rfl (hne id)
    | normal => exact fin
    | ret => exact fin
   simp only at h2
   split at h2
   ·cases h2
   ·rename_i hne
    exact key (fun id e => hne id e) h2
theorem HN (V : ca P C) (hX : ∀ f xs rs, C.ext f xs = some rs → xg P f xs rs) {runC' : Code → St → Option (Ex × St)} (hC : ∀ c s r, runC' c s = some r → yx P C c s r) {f : FuncId} {xs rs : List Dat}
  (h : (match C.ext f xs with
   | some rs => some rs
   | none =>
    match C.fn f with
    | none => none
    | some F =>
     match F.body with
     | none => none
     | some code => do
      let __x ← runC' code { regs := fun i => if i < xs.length then .d (xs.getD i default) else .undef, homes := fun _ => .dead, next := 0 }
      match __x with
      | (e, s) => match e with
       | .exit _ => none
       | _ => match cF C s F.results.toList with
        | none => none
        | some vs => (gU s.homes vs).map (·.1)) = some rs) : xh P C f xs rs := by
 split at h
 ·rename_i rs' hx
  cases h
  exact .inr ⟨hx, hX f xs rs hx⟩
 ·split at h
  ·cases h
  ·rename_i fn hfn
   obtain ⟨hf, hok, hnm⟩ := V.fn f fn hfn
   split at h
   ·cases h
   ·rename_i code hb
    obtain ⟨⟨e, s⟩, h1, h2⟩ := Option.bind_eq_some_iff.1 h
    obtain ⟨hn, hA⟩ := hC _ _ _ h1
    simp only [BJ, hb, Bool.and_eq_true] at hok
    refine .inl ⟨by assumption, ⟨fn, hf, by rw [hb]; rfl, hnm⟩, fun S w args hlt hg hs hv => calls_of_wp hf hb ?_⟩
    have hregs : ln S w noB (fun i => if i < xs.length then AV.d (xs.getD i default) else .undef) (gQ fn args).tmps := by
     have := C6 (S := S) (w := w) (B := noB) (fn := fn) (args := args) (vs := xs.map .d) (by simpa using hs) (fun i x u hx hu => by
      rw [List.getElem?_map] at hx
      obtain ⟨y, hy, rfl⟩ := Option.map_eq_some_iff.1 hx
      exact .d _ _ (hv i y u hy hu))
     intro i hi
     have h3 := this i hi
     simp only [List.length_map] at h3
     show AVR S w noB (if i < xs.length then AV.d (xs.getD i default) else .undef) _
     by_cases hlt : i < xs.length
     ·rw [if_pos hlt]
      rw [if_pos hlt] at h3
      have : (xs.map AV.d).getD i default = AV.d (xs.getD i default) := by simp [hlt]
      rwa [this] at h3
     ·rw [if_neg hlt]
      rwa [if_neg hlt] at h3
    refine (hA (a0 := gQ fn args) (a1 := gQ fn args) (w := w) (S := S) (B := noB) (hU (rl ..) hok.1) ⟨Mem.init hlt hg, hregs, rfl, rfl, fun _ h => h, fun _ _ => rfl, Ext.refl _⟩ _ ?_).1
    intro a2 w2 S2 B2 hA2
    have fin : (∀ id, e ≠ .exit id) → (match cF C s fn.results.toList with | none => none | some vs => (gU s.homes vs).map (·.1)) = some rs →
      a2.defers = [] ∧ ∃ v, (results fn a2.tmps).run P w2 = .ok v w2 ∧ EE (fun v w1 => ∃ S1, Lh S w S1 w1 ∧ AVR S1 w1 noB (dv (rs.map .d)) v) (.returned v) w2 := by
     intro _ h2
     split at h2
     ·cases h2
     ·rename_i vs h3
      obtain ⟨⟨rs', H1⟩, h4, he⟩ := Option.map_eq_some_iff.1 h2
      simp only at he
      subst he
      obtain ⟨us, h5, h6, h7⟩ := wu V hA2.mem hA2.regs (C5 (by rw [hA2.size]; exact rl ..) hok.2) h3
      obtain ⟨S3, hM3, hS3, h8, h9⟩ := vn 4 hA2.mem h6 h7 h4
      refine ⟨hA2.defers, _, h5, S3, ?_, Ah (by simpa using h8) (fun i x u hx hu => ?_)⟩
      ·exact ⟨fun b hb => hS3 b (hA2.sub b hb), fun b hb => (hM3.sIn b hb).imp id (fun h => h.resolve_left (fun h => h)), hM3.lt, fun b hb => hM3.keep b hb (fun h => h), hM3.size, hM3.os, hM3.tape, hM3.output⟩
      ·rw [List.getElem?_map] at hx
       obtain ⟨y, hy, rfl⟩ := Option.map_eq_some_iff.1 hx
       exact .d _ _ (h9 i y u hy hu)
    simp only at h2
    split at h2
    ·cases h2
    ·rename_i hne
     cases e with
     | exit id => exact absurd rfl (hne id)
     | normal => exact fin (fun id h => by cases h) h2
     | ret => exact fin (fun id h => by cases h) h2
theorem KD (V : ca P C) (hX : ∀ f xs rs, C.ext f xs = some rs → xg P f xs rs) : ∀ (f : FuncId) (xs rs : List Dat), aL C f xs = some rs → xh P C f xs rs :=
 (aL.mutual_partial_correctness C (xh P C) (yx P C) (fun ops l s r => Tr P C ops l s r.1 r.2) (fun e o H nx r => rz P C e o H nx r (jp C H nx r.2.2 r.2.1 e o)) (Bb P C) (fun ops l s r => ∃ fs, Tr P C ops l s fs r) (fun e o H nx r => ∃ f, rz P C e o H nx r f ∧ (bH o = true → f = az))
  (fun _ hC f xs r h => HN V hX hC h)
  (fun _ _ _ hC hF hO c s r h => J9 V hC hF hO h)
  (fun jw opV hF hV ops l s r h => by
   split at h
   ·cases h; exact .nil s
   ·rename_i o rest
    split at h
    ·cases h
    ·rename_i hw
     obtain ⟨⟨fs, s'⟩, h1, h2⟩ := Option.bind_eq_some_iff.1 h
     cases h2
     exact .skip o rest s fs s' hw (hF _ _ _ _ h1)
    ·rename_i hw
     obtain ⟨⟨v, H1, n1⟩, h1, h2⟩ := Option.bind_eq_some_iff.1 h
     obtain ⟨⟨fs, s'⟩, h3, h4⟩ := Option.bind_eq_some_iff.1 h2
     cases h4
     exact .go o rest s v H1 n1 _ fs s' hw (hV _ _ _ _ _ h1) pF (hF _ _ _ _ h3))
  (fun _ _ hD hR e o H nx r h => vp V hD hR h)
  (fun _ hC f vs H nx r h => HM V hC h)
  (fun fV opV hO hV ops l s r h => by
   split at h
   ·cases h; exact ⟨[], .nil s⟩
   ·rename_i o rest
    split at h
    ·cases h
    ·rename_i hw
     obtain ⟨fs, hT⟩ := hO _ _ _ _ h
     exact ⟨_, .skip o rest s fs r hw hT⟩
    ·rename_i hw
     obtain ⟨⟨v, H1, n1⟩, h1, h2⟩ := Option.bind_eq_some_iff.1 h
     obtain ⟨fs, hT⟩ := hO _ _ _ _ h2
     obtain ⟨f, hS, hq⟩ := hV _ _ _ _ _ h1
     exact ⟨_, .go o rest s v H1 n1 f fs r hw hS hq hT⟩)
  (fun _ _ hD hR e o H nx r h => Jg V hD hR h)).1
theorem Gq (V : ca P C) (hX : ∀ f xs rs, C.ext f xs = some rs → xg P f xs rs) (f : FuncId) (hf : ∀ xs, C.ext f xs = none) (xs rs : List Dat) (h : aL C f xs = some rs) : Ba P C f xs rs := by
 rcases KD V hX f xs rs h with h1 | h1
 ·exact h1.2
 ·rw [hf] at h1; cases h1.1
end
end Go.Jv
