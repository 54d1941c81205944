/- Regions that draw their order. -/
import Derived.Test.YtdcpfmjnkcodiaaDoorJvQ
namespace Go.Jv

theorem meets_spec {a b : Option (List Nat)} {id : Nat} (ha : match a with | none => True | some l => id ∈ l) (hb : match b with | none => True | some l => id ∈ l) : meets a b = true := by
  cases a with
  | none =>
    cases b with
    | none => rfl
    | some l => cases l with | nil => simp at hb | cons => rfl
  | some k =>
    cases k with
    | nil => simp at ha
    | cons x k =>
      cases b with
      | none => rfl
      | some l =>
        cases l with
        | nil => simp at hb
        | cons y l =>
          simp only [meets, List.any_eq_true]
          exact ⟨id, ha, id, hb, by simp⟩

theorem clash_mr {f g : Ft} {id : Nat} (h1 : f.mods id) (h2 : g.looks id) : clash f g = true := by simp [clash, meets_spec h1 h2]
theorem clash_mm {f g : Ft} {id : Nat} (h1 : f.mods id) (h2 : g.mods id) : clash f g = true := by simp [clash, meets_spec h1 h2]
theorem clash_rm {f g : Ft} {id : Nat} (h1 : f.looks id) (h2 : g.mods id) : clash f g = true := by simp [clash, meets_spec h1 h2]
theorem clash_wl {f g : Ft} (h1 : f.md = none) (h2 : g.md ≠ some []) : clash f g = true := by
  cases hg : g.md with
  | none => simp [clash, h1, hg, meets]
  | some l => cases l with | nil => exact absurd hg h2 | cons => simp [clash, h1, hg, meets]
theorem clash_wr {f g : Ft} (h1 : f.md ≠ some []) (h2 : g.md = none) : clash f g = true := by
  cases hg : f.md with
  | none => simp [clash, h2, hg, meets]
  | some l => cases l with | nil => exact absurd hg h1 | cons => simp [clash, h2, hg, meets]

/-- what an operation's edges lead to -/
def edgeTo (acc : List (List Nat)) (o : Oper) : List Nat := o.after.toList.flatMap fun e => if Region.binds .any e then e.on :: acc.getD e.on [] else []

theorem preds_snoc (l : List Oper) (o : Oper) : preds (l ++ [o]) = preds l ++ [edgeTo (preds l) o] := by simp [preds, edgeTo, List.foldl_append]

theorem snoc_ind {α : Type} {p : List α → Prop} (h0 : p []) (h1 : ∀ l a, p l → p (l ++ [a])) (l : List α) : p l := by
  have : ∀ l : List α, p l.reverse := fun l => by
    induction l with
    | nil => exact h0
    | cons a l ih => rw [List.reverse_cons]; exact h1 _ _ ih
  simpa using this l.reverse

theorem preds_length (l : List Oper) : (preds l).length = l.length := by
  refine snoc_ind (p := fun l => (preds l).length = l.length) rfl (fun l o ih => ?_) l
  rw [preds_snoc]; simp [ih]

theorem preds_take (l : List Oper) : ∀ (i : Nat) o, l[i]? = some o → (preds l).getD i [] = edgeTo (preds (l.take i)) o ∧ ∀ k, k < i → (preds (l.take i)).getD k [] = (preds l).getD k [] := by
  refine snoc_ind (p := fun l => ∀ (i : Nat) o, l[i]? = some o → (preds l).getD i [] = edgeTo (preds (l.take i)) o ∧ ∀ k, k < i → (preds (l.take i)).getD k [] = (preds l).getD k []) ?_ ?_ l
  · intro i o h; simp at h
  · intro l o' ih i o h
    have hl := preds_length l
    rw [preds_snoc]
    by_cases hi : i < l.length
    · rw [List.getElem?_append_left hi] at h
      obtain ⟨h1, h2⟩ := ih i o h
      have ht : (l ++ [o']).take i = l.take i := List.take_append_of_le_length (by omega)
      rw [ht]
      refine ⟨?_, fun k hk => ?_⟩
      · rw [← h1]; simp [List.getD_eq_getElem?_getD, List.getElem?_append_left (by omega : i < (preds l).length)]
      · rw [h2 k hk]; simp [List.getD_eq_getElem?_getD, List.getElem?_append_left (by omega : k < (preds l).length)]
    · have hi' : i = l.length := by
        have := (List.getElem?_eq_some_iff.1 h).1
        simp at this; omega
      subst hi'
      rw [List.getElem?_append_right (Nat.le_refl _)] at h
      simp at h
      subst h
      have ht : (l ++ [o']).take l.length = l := by simp
      rw [ht]
      refine ⟨?_, fun k hk => ?_⟩
      · simp [List.getD_eq_getElem?_getD, List.getElem?_append_right (by omega : (preds l).length ≤ l.length), hl]
      · simp [List.getD_eq_getElem?_getD, List.getElem?_append_left (by omega : k < (preds l).length)]

/-- what has been done holds, with an operation, all that its edges lead to -/
theorem preds_closed {ops : Array Oper} (hb : edgesBack ops = true) {L : Nat → Prop} (hL : ∀ i o, L i → ops[i]? = some o → ∀ e ∈ o.after, Region.binds .any e = true → L e.on) :
    ∀ (i : Nat), L i → i < ops.size → ∀ j, j ∈ (preds ops.toList).getD i [] → L j ∧ j < i := by
  intro i
  induction i using Nat.strongRecOn with
  | _ i ih =>
    intro hi hlt j hj
    have ho : ops.toList[i]? = some ops[i] := by simp [hlt]
    obtain ⟨h1, h2⟩ := preds_take ops.toList i _ ho
    rw [h1] at hj
    simp only [edgeTo, List.mem_flatMap] at hj
    obtain ⟨e, he, hj⟩ := hj
    split at hj
    · rename_i hbd
      have he' : e ∈ ops[i].after := by simpa using he
      have hlt2 : e.on < i := by
        have := List.all_eq_true.1 hb (ops[i], i) (by
          rw [List.mem_zipIdx_iff_getElem?]
          simp [hlt])
        have := List.all_eq_true.1 this e he
        simpa [hbd] using this
      have hLe := hL i _ hi (by simp [hlt]) e he' hbd
      simp only [List.mem_cons] at hj
      rcases hj with rfl | hj
      · exact ⟨hLe, hlt2⟩
      · rw [h2 _ hlt2] at hj
        obtain ⟨h3, h4⟩ := ih e.on hlt2 hLe (by omega) j hj
        exact ⟨h3, by omega⟩
    · simp at hj

section
variable {P : Program} {C : Cfg} {S0 L0 : Nat → Prop} {w0 : World} {S : Nat → Prop} {B : Nat → Option Pl} {H : Hs} {F : Nat → Prop} {nx : Nat} {w : World}

/-- one step of a run, by its number -/
def StepT (P : Program) (C : Cfg) (ops : Array Oper) (st : Nat → St) (fs : List Ft) (i : Nat) (o : Oper) : Prop :=
  (wantedA ops (st i).regs o = some false ∧ st (i + 1) = { st i with regs := putR (st i).regs o.dst .undef } ∧ fs[i]? = some noFt) ∨
  ∃ v H1 n1, wantedA ops (st i).regs o = some true ∧ OpSound P C (ev C (st i)) o.op (st i).homes (st i).next (v, H1, n1) ∧ st (i + 1) = ⟨putR (st i).regs o.dst v, H1, n1⟩ ∧
    fs[i]? = some (footA C (st i).next (ev C (st i)) o.op)

theorem Tr.trace {ops : Array Oper} {l : List Oper} {s : St} {fs : List Ft} {s' : St} (hT : Tr P C ops l s fs s') :
    ∃ st : Nat → St, st 0 = s ∧ st l.length = s' ∧ ∀ (i : Nat) o, l[i]? = some o → StepT P C ops st fs i o := by
  induction hT with
  | nil s => exact ⟨fun _ => s, rfl, rfl, fun i o h => by simp at h⟩
  | skip o rest s fs s' hw hT ih =>
    obtain ⟨st, h0, hn, hs⟩ := ih
    refine ⟨fun i => match i with | 0 => s | i + 1 => st i, rfl, hn, fun i o' h => ?_⟩
    match i with
    | 0 => simp at h; subst h; exact .inl ⟨hw, h0, rfl⟩
    | i + 1 => exact hs i o' (by simpa using h)
  | go o rest s v H1 n1 fs s' hw ho hT ih =>
    obtain ⟨st, h0, hn, hs⟩ := ih
    refine ⟨fun i => match i with | 0 => s | i + 1 => st i, rfl, hn, fun i o' h => ?_⟩
    match i with
    | 0 => simp at h; subst h; exact .inr ⟨v, H1, n1, hw, ho, h0, rfl⟩
    | i + 1 => exact hs i o' (by simpa using h)

variable {ops : Array Oper} {st : Nat → St} {fs : List Ft}

def Mods (fs : List Ft) (i id : Nat) : Prop := ∃ f, fs[i]? = some f ∧ f.mods id
def Writes (ops : Array Oper) (i : Nat) (t : Tmp) : Prop := ∃ o, ops[i]? = some o ∧ o.dst = some t

theorem putR_other {regs : Nat → AV} {dst : Option Tmp} {v : AV} {t : Tmp} (h : dst ≠ some t) : putR regs dst v t = regs t := by
  cases dst with
  | none => rfl
  | some d => simp only [putR, upd]; rw [if_neg]; rintro rfl; exact h rfl

theorem step_regs (hs : ∀ i o, ops[i]? = some o → StepT P C ops st fs i o) {i : Nat} (hi : i < ops.size) {t : Tmp} (h : ¬ Writes ops i t) : (st (i + 1)).regs t = (st i).regs t := by
  have ho : ops[i]? = some ops[i] := by simp [hi]
  have hd : ops[i].dst ≠ some t := fun e => h ⟨_, ho, e⟩
  rcases hs i _ ho with ⟨_, h2, _⟩ | ⟨v, H1, n1, _, _, h2, _⟩ <;> rw [h2] <;> exact putR_other hd

theorem step_homes (hs : ∀ i o, ops[i]? = some o → StepT P C ops st fs i o) {i : Nat} (hi : i < ops.size) {id : Nat} (h : ¬ Mods fs i id) : (st (i + 1)).homes id = (st i).homes id := by
  have ho : ops[i]? = some ops[i] := by simp [hi]
  rcases hs i _ ho with ⟨_, h2, _⟩ | ⟨v, H1, n1, _, h3, h2, hf⟩
  · rw [h2]
  · rw [h2]
    obtain ⟨_, _, h4⟩ := h3
    obtain ⟨H1', hL, _⟩ := h4 _ _ (fun _ _ => rfl) (fun _ _ => rfl)
    exact (hL.2 id (fun hm => h ⟨_, hf, hm⟩)).2

theorem step_next (hs : ∀ i o, ops[i]? = some o → StepT P C ops st fs i o) {i : Nat} (hi : i < ops.size) : (st i).next ≤ (st (i + 1)).next ∧ (∀ f, fs[i]? = some f → f.md = some [] → (st (i + 1)).next = (st i).next) := by
  have ho : ops[i]? = some ops[i] := by simp [hi]
  rcases hs i _ ho with ⟨_, h2, _⟩ | ⟨v, H1, n1, _, h3, h2, hf⟩
  · rw [h2]; exact ⟨Nat.le_refl _, fun _ _ _ => rfl⟩
  · rw [h2]; exact ⟨h3.1, fun f hf' hm => by rw [hf] at hf'; cases hf'; exact h3.2.1 hm⟩

theorem run_stable {α : Type} {g : Nat → α} {n : Nat} {p : Nat → Prop} (hs : ∀ i, i < n → ¬ p i → g (i + 1) = g i) : ∀ (a b : Nat), a ≤ b → b ≤ n → (∀ j, a ≤ j → j < b → ¬ p j) → g b = g a := by
  intro a b hab
  induction b with
  | zero => intro _ _; have : a = 0 := by omega
            rw [this]
  | succ b ih =>
    intro hn hp
    by_cases e : a = b + 1
    · rw [e]
    · rw [hs b (by omega) (hp b (by omega) (by omega))]
      exact ih (by omega) (by omega) fun j h1 h2 => hp j h1 (by omega)

theorem next_mono (hs : ∀ i o, ops[i]? = some o → StepT P C ops st fs i o) : ∀ (a b : Nat), a ≤ b → b ≤ ops.size → (st a).next ≤ (st b).next := by
  intro a b hab
  induction b with
  | zero => intro _; have : a = 0 := by omega
            rw [this]; exact Nat.le_refl _
  | succ b ih =>
    intro hn
    by_cases e : a = b + 1
    · rw [e]; exact Nat.le_refl _
    · exact Nat.le_trans (ih (by omega) (by omega)) (step_next hs (by omega)).1

/-- a number between two counts was taken by one of the operations between -/
theorem next_between (st : Nat → St) (ops : Array Oper) {id : Nat} : ∀ (b : Nat), b ≤ ops.size → (st 0).next ≤ id → id < (st b).next → ∃ j, j < b ∧ (st j).next ≤ id ∧ id < (st (j + 1)).next := by
  intro b
  induction b with
  | zero => intro _ h1 h2; omega
  | succ b ih =>
    intro hb h1 h2
    by_cases h3 : id < (st b).next
    · obtain ⟨j, h4, h5⟩ := ih (by omega) h1 h3
      exact ⟨j, by omega, h5⟩
    · exact ⟨b, by omega, by omega, h2⟩

theorem countP_lt {p q : Nat → Bool} : ∀ {l : List Nat}, (∀ x ∈ l, q x = true → p x = true) → ∀ x0 ∈ l, p x0 = true → q x0 = false → l.countP q < l.countP p
  | [], _, x0, h, _, _ => by simp at h
  | x :: l, hpq, x0, h, hp, hq => by
    have hle : l.countP q ≤ l.countP p := List.countP_mono_left fun y hy hqy => hpq y (by simp [hy]) hqy
    by_cases e : x0 = x
    · subst e
      rw [List.countP_cons_of_neg (by simp [hq]), List.countP_cons_of_pos hp]
      omega
    · have h2 := countP_lt (l := l) (fun y hy => hpq y (List.mem_cons_of_mem _ hy)) x0 (by simpa [e] using h) hp hq
      by_cases hqx : q x = true
      · rw [List.countP_cons_of_pos hqx, List.countP_cons_of_pos (hpq x (by simp) hqx)]; omega
      · rw [List.countP_cons_of_neg hqx]
        by_cases hpx : p x = true
        · rw [List.countP_cons_of_pos hpx]; omega
        · rw [List.countP_cons_of_neg hpx]; omega

theorem clash_no (f : Ft) : clash f noFt = false ∧ clash noFt f = false := by
  obtain ⟨r, m⟩ := f
  constructor
  · cases m with
    | none => cases r with | none => rfl | some l => cases l <;> rfl
    | some k => cases k <;> (cases r with | none => rfl | some l => cases l <;> rfl)
  · rfl

/-- operations that may meet in a home come in one order -/
theorem ord_home (hs : ∀ i o, ops[i]? = some o → StepT P C ops st fs i o) (hp : pairsOk fs (unord ops.toList) = true) {i j : Nat} (hji : j < i) (hi : i < ops.size) {f g : Ft} (hf : fs[j]? = some f) (hg : fs[i]? = some g)
    (hc : clash f g = true) : j ∈ (preds ops.toList).getD i [] := by
  refine Classical.byContradiction fun hn => ?_
  have hoi : ops[i]? = some ops[i] := by simp [hi]
  have hoj : ops[j]? = some (ops[j]'(by omega)) := by simp [show j < ops.size by omega]
  have hq : ∀ (k : Nat) (o : Oper) (h : Ft), ops[k]? = some o → fs[k]? = some h → quietOp o.op = true → h = noFt := by
    intro k o h ho hk hq
    rcases hs k o ho with ⟨_, _, h2⟩ | ⟨v, H1, n1, _, _, _, h2⟩
    · rw [h2] at hk; exact (Option.some.inj hk).symm
    · rw [h2, footA_quiet hq] at hk; exact (Option.some.inj hk).symm
  have hqi : quietOp ops[i].op = false := by
    cases h : quietOp ops[i].op with
    | false => rfl
    | true => rw [hq i _ g hoi hg h, (clash_no f).1] at hc; cases hc
  have hqj : quietOp (ops[j]'(by omega)).op = false := by
    cases h : quietOp (ops[j]'(by omega)).op with
    | false => rfl
    | true => rw [hq j _ f hoj hf h, (clash_no g).2] at hc; cases hc
  have hmem : (j, i) ∈ unord ops.toList := by
    simp only [unord, List.mem_flatMap, List.mem_range, List.mem_filterMap]
    refine ⟨i, by simpa using hi, j, hji, ?_⟩
    have h1 : ((preds ops.toList).getD i []).contains j = false := by
      cases h : ((preds ops.toList).getD i []).contains j with
      | false => rfl
      | true => exact absurd (List.contains_iff_mem.1 h) hn
    have h2 : ∀ k (hk : k < ops.size), (ops.toList.map (·.op)).getD k (.move (.const (.bool true))) = ops[k].op := by
      intro k hk
      simp [List.getD_eq_getElem?_getD, hk]
    rw [h1, h2 i hi, h2 j (by omega), hqi, hqj]
    rfl
  have := List.all_eq_true.1 hp _ hmem
  simp only [hf, hg, hc] at this
  cases this

/-- operations that meet in a temporary come in one order -/
theorem ord_tmp (ht : tmpsApart ops = true) {i j : Nat} (hji : j < i) (hi : i < ops.size) {x y : Oper} (hx : ops[i]? = some x) (hy : ops[j]? = some y) {t : Tmp}
    (hc : (x.dst = some t ∧ (y.dst = some t ∨ t ∈ y.looksAt ops)) ∨ (y.dst = some t ∧ t ∈ x.looksAt ops)) : j ∈ (preds ops.toList).getD i [] := by
  have h1 := List.all_eq_true.1 (List.all_eq_true.1 ht i (by simpa using hi)) j (by simpa using hji)
  simp only [hx, hy, Bool.or_eq_true, Bool.and_eq_true] at h1
  rcases h1 with h1 | ⟨h1, h2⟩
  · exact List.contains_iff_mem.1 h1
  · obtain ⟨a1, a2, a3⟩ := Oper.apart_spec h1
    rcases hc with ⟨h3, h4 | h4⟩ | ⟨h3, h4⟩
    · exact absurd h4 (a2 t h3)
    · exact absurd h4 (a1 t h3)
    · exact absurd h4 (a3 t h3)

theorem wanted_congr {R R' : Nat → AV} {o : Oper} (h : ∀ t ∈ o.looksAt ops, R t = R' t) : wantedA ops R o = wantedA ops R' o := by
  unfold wantedA
  cases hg : o.guard with
  | none => rfl
  | some q =>
    obtain ⟨j, c⟩ := q
    simp only
    cases ht : (ops[j]?).bind (·.dst) with
    | none => rfl
    | some t =>
      simp only
      rw [h t (by simp [Oper.looksAt, hg, ht])]

theorem ev_congr {R R' : Nat → AV} {H H' : Hs} {n n' : Nat} {o : Oper} (h : ∀ t ∈ o.looksAt ops, R t = R' t) : ∀ x ∈ o.op.operands, ev C ⟨R, H, n⟩ x = ev C ⟨R', H', n'⟩ x := by
  intro x hx
  cases x with
  | tmp t => exact h t (by simp only [Oper.looksAt, List.mem_append, List.mem_filterMap]; exact .inl ⟨.tmp t, by simpa using hx, rfl⟩)
  | _ => rfl

/-- what stands when those of L are done -/
structure Mid (C : Cfg) (ops : Array Oper) (st : Nat → St) (fs : List Ft) (L : Nat → Prop) (R : Nat → AV) (H : Hs) (F : Nat → Prop) : Prop where
  regs : ∀ t k, k ≤ ops.size → (∀ j, j < k → Writes ops j t → L j) → (∀ j, k ≤ j → j < ops.size → Writes ops j t → ¬ L j) → R t = (st k).regs t
  homes : ∀ id k, k ≤ ops.size → (∀ j, j < k → Mods fs j id → L j) → (∀ j, k ≤ j → j < ops.size → Mods fs j id → ¬ L j) → H id = (st k).homes id
  free : ∀ id, F id ↔ (st 0).next ≤ id ∧ ∀ j, j < ops.size → L j → id < (st j).next ∨ (st (j + 1)).next ≤ id

variable {a0 a1 : Act} {w1 : World} {S1 : Nat → Prop} {B1 : Nat → Option Pl} {R : Nat → AV} {L : Nat → Prop}

section
variable (hs : ∀ i o, ops[i]? = some o → StepT P C ops st fs i o) (hp : pairsOk fs (unord ops.toList) = true) (ht : tmpsApart ops = true) (hb : edgesBack ops = true)
variable (hL : ∀ i o, L i → ops[i]? = some o → ∀ e ∈ o.after, Region.binds .any e = true → L e.on)
include hs hp ht hb hL

/-- the next operation finds what it found in the text's order -/
theorem Mid.same (hM : Mid C ops st fs L R H F) {i : Nat} {o : Oper} (ho : ops[i]? = some o) (hni : ¬ L i) (hpre : ∀ j, j ∈ (preds ops.toList).getD i [] → L j) :
    (∀ t ∈ o.looksAt ops, R t = (st i).regs t) ∧ ∀ f, fs[i]? = some f → ∀ id, f.looks id ∨ f.mods id → H id = (st i).homes id := by
  have hi : i < ops.size := (Array.getElem?_eq_some_iff.1 ho).1
  refine ⟨fun t hto => hM.regs t i (by omega) ?_ ?_, fun f hf id hid => hM.homes id i (by omega) ?_ ?_⟩
  · rintro j hj ⟨y, hy, hd⟩
    exact hpre j (ord_tmp ht hj hi ho hy (.inr ⟨hd, hto⟩))
  · rintro j hij hj ⟨y, hy, hd⟩ hLj
    by_cases e : j = i
    · subst e; exact hni hLj
    · exact hni (preds_closed hb hL j hLj hj i (ord_tmp ht (by omega) hj hy ho (.inl ⟨hd, .inr hto⟩))).1
  · rintro j hj ⟨g, hg, hm⟩
    exact hpre j (ord_home hs hp hj hi hg hf (hid.elim (clash_mr hm) (clash_mm hm)))
  · rintro j hij hj ⟨g, hg, hm⟩ hLj
    by_cases e : j = i
    · subst e; exact hni hLj
    · exact hni (preds_closed hb hL j hLj hj i (ord_home hs hp (by omega) hj hf hg (hid.elim (fun h => clash_rm h hm) (fun h => clash_mm h hm)))).1

/-- one more is done -/
theorem Mid.next (hM : Mid C ops st fs L R H F) {i : Nat} {o : Oper} (ho : ops[i]? = some o) (hni : ¬ L i) {x : AV} {H1' : Hs} (hx : (st (i + 1)).regs = putR (st i).regs o.dst x)
    (hm : ∀ id, Mods fs i id → H1' id = (st (i + 1)).homes id) (hnm : ∀ id, ¬ Mods fs i id → H1' id = H id) :
    Mid C ops st fs (fun j => L j ∨ j = i) (putR R o.dst x) H1' (took F (st i).next (st (i + 1)).next) := by
  have hi : i < ops.size := (Array.getElem?_eq_some_iff.1 ho).1
  have hstR : ∀ t, ∀ a b, a ≤ b → b ≤ ops.size → (∀ j, a ≤ j → j < b → ¬ Writes ops j t) → (st b).regs t = (st a).regs t := fun t =>
    run_stable (g := fun k => (st k).regs t) (p := fun j => Writes ops j t) (fun j hj hw => step_regs hs hj hw)
  have hstH : ∀ id, ∀ a b, a ≤ b → b ≤ ops.size → (∀ j, a ≤ j → j < b → ¬ Mods fs j id) → (st b).homes id = (st a).homes id := fun id =>
    run_stable (g := fun k => (st k).homes id) (p := fun j => Mods fs j id) (fun j hj hw => step_homes hs hj hw)
  refine ⟨fun t k hk h1 h2 => ?_, fun id k hk h1 h2 => ?_, fun id => ?_⟩
  · by_cases hw : o.dst = some t
    · have hik : i < k := by
        refine Classical.byContradiction fun hn => ?_
        exact h2 i (by omega) hi ⟨o, ho, hw⟩ (.inr rfl)
      rw [hstR t (i + 1) k hik hk ?_]
      · rw [hx, hw]; simp [putR, upd]
      · rintro j hij hjk ⟨y, hy, hd⟩
        rcases h1 j hjk ⟨y, hy, hd⟩ with h3 | h3
        · exact hni (preds_closed hb hL j h3 (by omega) i (ord_tmp ht (by omega) (by omega) hy ho (.inl ⟨hd, .inl hw⟩))).1
        · omega
    · rw [putR_other hw]
      refine hM.regs t k hk ?_ ?_
      · intro j hj hwj
        rcases h1 j hj hwj with h3 | rfl
        · exact h3
        · obtain ⟨y, hy, hd⟩ := hwj
          rw [ho] at hy; cases hy; exact absurd hd hw
      · exact fun j hkj hj hwj hLj => h2 j hkj hj hwj (.inl hLj)
  · by_cases hw : Mods fs i id
    · have hik : i < k := by
        refine Classical.byContradiction fun hn => ?_
        exact h2 i (by omega) hi hw (.inr rfl)
      rw [hm id hw, hstH id (i + 1) k hik hk ?_]
      rintro j hij hjk ⟨g, hg, hmj⟩
      rcases h1 j hjk ⟨g, hg, hmj⟩ with h3 | h3
      · obtain ⟨f, hf, hmi⟩ := hw
        exact hni (preds_closed hb hL j h3 (by omega) i (ord_home hs hp (by omega) (by omega) hf hg (clash_mm hmi hmj))).1
      · omega
    · rw [hnm id hw]
      refine hM.homes id k hk ?_ ?_
      · intro j hj hwj
        rcases h1 j hj hwj with h3 | rfl
        · exact h3
        · exact absurd hwj hw
      · exact fun j hkj hj hwj hLj => h2 j hkj hj hwj (.inl hLj)
  · unfold took
    rw [hM.free]
    constructor
    · rintro ⟨⟨h1, h2⟩, h3⟩
      refine ⟨h1, fun j hj hLj => ?_⟩
      rcases hLj with hLj | rfl
      · exact h2 j hj hLj
      · exact h3
    · rintro ⟨h1, h2⟩
      exact ⟨⟨h1, fun j hj hLj => h2 j hj (.inl hLj)⟩, h2 i hi (.inr rfl)⟩

/-- the numbers that it takes are free -/
theorem Mid.room (hM : Mid C ops st fs L R H F) {i : Nat} {o : Oper} (ho : ops[i]? = some o) (hni : ¬ L i) (hpre : ∀ j, j ∈ (preds ops.toList).getD i [] → L j) :
    (∀ id, (st i).next ≤ id → id < (st (i + 1)).next → F id) ∧ ∀ f, fs[i]? = some f → f.md = none → ∀ id, F id ↔ (st i).next ≤ id := by
  have _ := ht
  have hi : i < ops.size := (Array.getElem?_eq_some_iff.1 ho).1
  refine ⟨fun id h1 h2 => (hM.free id).2 ⟨Nat.le_trans (next_mono hs 0 i (by omega) (by omega)) h1, fun j hj hLj => ?_⟩, fun f hf hmd id => ⟨fun hF => ?_, fun h1 => ?_⟩⟩
  · rcases Nat.lt_trichotomy j i with h3 | h3 | h3
    · exact .inr (Nat.le_trans (next_mono hs (j + 1) i (by omega) (by omega)) h1)
    · subst h3; exact absurd hLj hni
    · exact .inl (Nat.lt_of_lt_of_le h2 (next_mono hs (i + 1) j (by omega) (by omega)))
  · obtain ⟨h1, h2⟩ := (hM.free id).1 hF
    refine Classical.byContradiction fun hn => ?_
    obtain ⟨j, hji, h3, h4⟩ := next_between st ops i (by omega) h1 (by omega)
    have hgj : ∃ g, fs[j]? = some g := by
      rcases hs j _ (by simp [show j < ops.size by omega] : ops[j]? = some (ops[j]'(by omega))) with ⟨_, _, h⟩ | ⟨_, _, _, _, _, _, h⟩ <;> exact ⟨_, h⟩
    obtain ⟨g, hg⟩ := hgj
    have hne : g.md ≠ some [] := fun e => by have := (step_next hs (by omega : j < ops.size)).2 g hg e; omega
    have hLj := hpre j (ord_home hs hp hji hi hg hf (clash_wr hne hmd))
    have := h2 j (by omega) hLj
    omega
  · refine (hM.free id).2 ⟨Nat.le_trans (next_mono hs 0 i (by omega) (by omega)) h1, fun j hj hLj => ?_⟩
    rcases Nat.lt_trichotomy j i with h3 | h3 | h3
    · exact .inr (Nat.le_trans (next_mono hs (j + 1) i (by omega) (by omega)) h1)
    · subst h3; exact absurd hLj hni
    · refine Classical.byContradiction fun hn => ?_
      have hgj : ∃ g, fs[j]? = some g := by
        rcases hs j _ (by simp [hj] : ops[j]? = some ops[j]) with ⟨_, _, h⟩ | ⟨_, _, _, _, _, _, h⟩ <;> exact ⟨_, h⟩
      obtain ⟨g, hg⟩ := hgj
      have hne : g.md ≠ some [] := fun e => by have := (step_next hs hj).2 g hg e; omega
      exact hni (preds_closed hb hL j hLj hj i (ord_home hs hp h3 hj hf hg (clash_wl hmd hne))).1

end

/-- in whatever order -/
theorem any_order (hs : ∀ i o, ops[i]? = some o → StepT P C ops st fs i o) (hp : pairsOk fs (unord ops.toList) = true) (ht : tmpsApart ops = true) (hb : edgesBack ops = true)
    (hok : ∀ o ∈ ops, operOk a0.tmps.size o = true) {Q : Exit → Act → World → Prop}
    (hQ : ∀ a2 w2 S2 B2, At C S0 L0 w0 a0 S w B (st ops.size).regs (st ops.size).homes (fun id => (st ops.size).next ≤ id) a2 w2 S2 B2 → Q .normal a2 w2) :
    ∀ (fuel : Nat) (listed : Array Bool), listed.size = ops.size → (List.range ops.size).countP (fun i => !listed.getD i false) ≤ fuel →
    (∀ i o, listed.getD i false = true → ops[i]? = some o → ∀ e ∈ o.after, Region.binds .any e = true → listed.getD e.on false = true) →
    ∀ {R : Nat → AV} {H : Hs} {F : Nat → Prop} {a1 : Act} {w1 : World} {S1 : Nat → Prop} {B1 : Nat → Option Pl}, Mid C ops st fs (fun i => listed.getD i false = true) R H F → At C S0 L0 w0 a0 S w B R H F a1 w1 S1 B1 →
    wpAny P .any ops Q fuel listed a1 w1 := by
  -- all is done: the end
  have done : ∀ (listed : Array Bool), (∀ i, i < ops.size → listed.getD i false = true) →
      ∀ {R : Nat → AV} {H : Hs} {F : Nat → Prop} {a1 : Act} {w1 : World} {S1 : Nat → Prop} {B1 : Nat → Option Pl}, Mid C ops st fs (fun i => listed.getD i false = true) R H F → At C S0 L0 w0 a0 S w B R H F a1 w1 S1 B1 → Q .normal a1 w1 := by
    intro listed hall R H F a1 w1 S1 B1 hM hA
    have h1 : R = (st ops.size).regs := funext fun t => hM.regs t ops.size (Nat.le_refl _) (fun j hj _ => hall j hj) (fun j h1 h2 => by omega)
    have h2 : H = (st ops.size).homes := funext fun id => hM.homes id ops.size (Nat.le_refl _) (fun j hj _ => hall j hj) (fun j h1 h2 => by omega)
    subst h1 h2
    refine hQ a1 w1 S1 B1 ⟨hA.mem.weak fun id hid => (hM.free id).2 ⟨Nat.le_trans (next_mono hs 0 _ (Nat.zero_le _) (Nat.le_refl _)) hid, fun j hj _ => .inr (Nat.le_trans (next_mono hs (j + 1) _ (by omega) (Nat.le_refl _)) hid)⟩,
      hA.regs, hA.size, hA.defers, hA.sub, hA.same, hA.ext⟩
  -- nothing is ready: all is done
  have none_ready : ∀ (listed : Array Bool), listed.size = ops.size → Region.ready .any ops listed = [] → ∀ i, i < ops.size → listed.getD i false = true := by
    intro listed hsz hr i
    induction i using Nat.strongRecOn with
    | _ i ih =>
      intro hi
      refine Classical.byContradiction fun hn => ?_
      have : i ∈ Region.ready .any ops listed := mem_ready.2 ⟨by
          have hi' : i < listed.size := by omega
          simp [hi'] at hn ⊢; exact hn, ops[i], by simp [hi], fun e he hbd => by
        have hlt2 : e.on < i := by
          have := List.all_eq_true.1 hb (ops[i], i) (by rw [List.mem_zipIdx_iff_getElem?]; simp [hi])
          have := List.all_eq_true.1 this e (by simpa using he)
          simpa [hbd] using this
        exact ih e.on hlt2 (by omega)⟩
      rw [hr] at this
      simp at this
  intro fuel
  induction fuel with
  | zero =>
    intro listed hsz hc hcl R H F a1 w1 S1 B1 hM hA
    have hall : ∀ i, i < ops.size → listed.getD i false = true := by
      intro i hi
      have h0 : (List.range ops.size).countP (fun i => !listed.getD i false) = 0 := by omega
      have := List.countP_eq_zero.1 h0 i (by simpa using hi)
      simpa using this
    refine ⟨?_, done listed hall hM hA⟩
    apply List.eq_nil_iff_forall_not_mem.2
    intro i hi
    obtain ⟨h1, o, h2, _⟩ := mem_ready.1 hi
    have hlt : i < ops.size := (Array.getElem?_eq_some_iff.1 h2).1
    have := hall i hlt
    have hi' : i < listed.size := by omega
    simp [hi'] at h1 this
    rw [this] at h1; cases h1
  | succ fuel ih =>
    intro listed hsz hc hcl R H F a1 w1 S1 B1 hM hA
    refine ⟨fun hr => done listed (none_ready listed hsz hr) hM hA, fun i hi => ?_⟩
    obtain ⟨h1, o, ho, hedge⟩ := mem_ready.1 hi
    have hlt : i < ops.size := (Array.getElem?_eq_some_iff.1 ho).1
    have hlt' : i < listed.size := by omega
    have hni : ¬ listed.getD i false = true := by simp [hlt'] at h1 ⊢; exact h1
    have hcl' : ∀ k o', (listed.setIfInBounds i true).getD k false = true → ops[k]? = some o' → ∀ e ∈ o'.after, Region.binds .any e = true → (listed.setIfInBounds i true).getD e.on false = true := by
      intro k o' hk ho' e he hbd
      by_cases e1 : i = k
      · subst e1
        rw [ho] at ho'; cases ho'
        exact getD_set_true (hedge e he hbd)
      · rw [getD_set_ne false e1] at hk
        exact getD_set_true (hcl k o' hk ho' e he hbd)
    have hpre : ∀ j, j ∈ (preds ops.toList).getD i [] → listed.getD j false = true := by
      intro j hj
      have h2 := preds_closed hb (L := fun k => (listed.setIfInBounds i true).getD k false = true) hcl' i (by simp [hlt']) hlt j hj
      rw [getD_set_ne false (by omega : i ≠ j)] at h2
      exact h2.1
    have hset : (fun k => (listed.setIfInBounds i true).getD k false = true) = fun k => listed.getD k false = true ∨ k = i := by
      funext k
      by_cases e1 : i = k
      · subst e1; simp [hlt']
      · rw [getD_set_ne false e1]
        have : ¬ k = i := fun e => e1 e.symm
        simp [this]
    have hcount : (List.range ops.size).countP (fun k => !(listed.setIfInBounds i true).getD k false) ≤ fuel := by
      have := countP_lt (p := fun k => !listed.getD k false) (q := fun k => !(listed.setIfInBounds i true).getD k false) (l := List.range ops.size) (fun k _ hk => by
        by_cases e1 : i = k
        · subst e1; simp [hlt'] at hk
        · rw [getD_set_ne false e1] at hk; exact hk) i (by simpa using hlt) (by simpa using hni) (by simp [hlt'])
      omega
    obtain ⟨hregs, hhomes⟩ := hM.same hs hp ht hb hcl ho hni hpre
    obtain ⟨hroom, hwhole⟩ := hM.room hs hp ht hb hcl ho hni hpre
    have hoo := hok o (Array.mem_of_getElem? ho)
    unfold wpOp
    rw [ho]
    simp only
    rcases hs i o ho with ⟨hw, hst, hf⟩ | ⟨v, H1, n1, hw, hop, hst, hf⟩
    · have hwn := wanted_sound hA.regs (fun o ho => by rw [hA.size]; exact hok o ho) ((wanted_congr hregs).trans hw)
      simp only [hwn, Bool.false_eq_true, if_false]
      have hno : ∀ id, ¬ Mods fs i id := by
        rintro id ⟨f, hf', hm⟩
        rw [hf] at hf'; cases hf'
        simp [Ft.mods, noFt] at hm
      have hM' := hM.next hs hp ht hb hcl ho hni (x := .undef) (H1' := H) (by rw [hst]) (fun id hm => absurd hm (hno id)) (fun _ _ => rfl)
      rw [← hset] at hM'
      exact ih _ (by simpa using hsz) hcount hcl' (S1 := S1) (B1 := B1) hM' <| hA.put o.dst .undef (hA.mem.weak fun id hid => hid.1) (fun _ h => h) (fun _ _ => rfl) (Ext.refl _)
    · have hwn := wanted_sound hA.regs (fun o ho => by rw [hA.size]; exact hok o ho) ((wanted_congr hregs).trans hw)
      simp only [hwn, if_true]
      left
      obtain ⟨hn, _, hS⟩ := hop
      obtain ⟨H1', hL, hS⟩ := hS (ev C ⟨R, H, 0⟩) H (fun x hx => by rw [ev_congr hregs x hx (H' := (st i).homes) (n' := (st i).next)]) (hhomes _ hf)
      have hM' := hM.next hs hp ht hb hcl ho hni (x := v) (H1' := H1') (by rw [hst]) (fun id ⟨f, hf', hm⟩ => by rw [hf] at hf'; cases hf'; rw [hst]; exact hL.1 id hm)
        (fun id hm => (hL.2 id fun h => hm ⟨_, hf, h⟩).1)
      rw [← hset] at hM'
      have hnext : (st (i + 1)).next = n1 := by rw [hst]
      refine hS a1 o rfl hA.mem (fun x hx => eval_sound hA.mem hA.regs (by rw [hA.size]; exact operOk_operand hoo hx)) (fun id h1 h2 => hroom id h1 (by rw [hnext]; exact h2)) (hwhole _ hf) _ Q ?_
      intro val w2 S2 B2 hv hM2 hS2 hss hE
      rw [hnext] at hM'
      exact ih _ (by simpa using hsz) hcount hcl' hM' (hA.put o.dst hv hM2 hS2 hss hE)

end
end Go.Jv
