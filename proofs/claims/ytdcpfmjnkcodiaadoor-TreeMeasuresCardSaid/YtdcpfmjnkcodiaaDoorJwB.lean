/- Steps of a walk beside a plain function: operations. -/
import Derived.Test.YtdcpfmjnkcodiaaDoorJwA
namespace Go.Jv

/-- operations in the text's order; q: in a region that draws its order, where none of them may change a home -/
def EW (q : Bool) (C : Cfg) (ops : Array Oper) (l : List Oper) (s : St) (R : St → Prop) : Prop :=
  match q with
  | false => EO C ops l s R
  | true => ∃ fs s', runFts C ops l s = some (fs, s') ∧ (∀ f ∈ fs, f.md = some []) ∧ R s'

section
variable {C : Cfg} {s : St} {gs : Nat → AV} {hom : Hs} {nx : Nat} {q : Bool} {ops : Array Oper} {rest : List Oper} {R : St → Prop} {Q : Ex → St → Prop}

theorem w_nil (h : R s) : EW q C ops [] s R := by
  cases q
  · exact e_nil h
  · exact ⟨[], s, by rw [runFts], by simp, h⟩

theorem w_op {o : Oper} {v : AV} {H1 : Hs} {n1 : Nat} (hw : wantedA ops gs o = some true) (ho : opV C (ev C ⟨gs, hom, nx⟩) o.op hom nx = some (v, H1, n1))
    (hf : q = true → (footA C nx (ev C ⟨gs, hom, nx⟩) o.op).md = some []) (h : EW q C ops rest ⟨putR gs o.dst v, H1, n1⟩ R) : EW q C ops (o :: rest) ⟨gs, hom, nx⟩ R := by
  cases q
  · obtain ⟨s', h1, h2⟩ := h
    exact ⟨s', by rw [runOps_cons, hw]; simp only [ho]; exact h1, h2⟩
  · obtain ⟨fs, s', h1, h2, h3⟩ := h
    refine ⟨footA C nx (ev C ⟨gs, hom, nx⟩) o.op :: fs, s', ?_, ?_, h3⟩
    · rw [runFts, hw]; simp only [ho]; simp [h1]
    · intro f hm
      rcases List.mem_cons.1 hm with rfl | hm
      · exact hf rfl
      · exact h2 f hm

theorem w_skip {o : Oper} (hw : wantedA ops gs o = some false) (h : EW q C ops rest ⟨putR gs o.dst .undef, hom, nx⟩ R) : EW q C ops (o :: rest) ⟨gs, hom, nx⟩ R := by
  cases q
  · obtain ⟨s', h1, h2⟩ := h
    exact ⟨s', by rw [runOps_cons, hw]; exact h1, h2⟩
  · obtain ⟨fs, s', h1, h2, h3⟩ := h
    refine ⟨noFt :: fs, s', ?_, ?_, h3⟩
    · rw [runFts, hw]; simp [h1]
    · intro f hm
      rcases List.mem_cons.1 hm with rfl | hm
      · rfl
      · exact h2 f hm

theorem w_region {i : Nat} (h : EW false C ops ops.toList s (fun s' => Q .normal s')) : EC C (.region i ops false) s Q := e_region h

theorem w_draw {i : Nat} (hd : drawStat ops = true) (hu : (unord ops.toList).isEmpty = true) (h : EW false C ops ops.toList s (fun s' => Q .normal s')) : EC C (.region i ops true) s Q := e_draw hd hu h

theorem pairsOk_calm {fs : List Ft} (h : ∀ f ∈ fs, f.md = some []) (ps : List (Nat × Nat)) (hp : ∀ p ∈ ps, p.1 < fs.length ∧ p.2 < fs.length) : pairsOk fs ps = true := by
  simp only [pairsOk, List.all_eq_true]
  intro p hm
  obtain ⟨h1, h2⟩ := hp p hm
  simp only [List.getElem?_eq_getElem h1, List.getElem?_eq_getElem h2]
  have a := h _ (List.getElem_mem h1)
  have b := h _ (List.getElem_mem h2)
  have e1 : ∀ x, meets (some []) x = false := fun x => by simp [meets]
  have e2 : ∀ x, meets x (some []) = false := fun x => by
    unfold meets
    split
    · rfl
    · rfl
    · rename_i h1 h2 h3; cases h3; exact absurd rfl h2
    · rename_i h1 h2 h3; exact absurd rfl h2
  simp [clash, a, b, e1, e2]

theorem runFts_len : ∀ (l : List Oper) {s : St} {fs : List Ft} {s' : St}, runFts C ops l s = some (fs, s') → fs.length = l.length := by
  intro l
  induction l with
  | nil => intro s fs s' h; rw [runFts] at h; cases h; rfl
  | cons o rest ih =>
    intro s fs s' h
    rw [runFts] at h
    split at h
    · cases h
    · obtain ⟨⟨fs', s1⟩, h1, h2⟩ := Option.bind_eq_some_iff.1 h
      cases h2
      simp [ih h1]
    · obtain ⟨⟨v, H1, n1⟩, h0, h1⟩ := Option.bind_eq_some_iff.1 h
      obtain ⟨⟨fs', s1⟩, h1, h2⟩ := Option.bind_eq_some_iff.1 h1
      cases h2
      simp [ih h1]

theorem w_calm {i : Nat} (hd : drawStat ops = true) (h : EW true C ops ops.toList s (fun s' => Q .normal s')) : EC C (.region i ops true) s Q := by
  by_cases hu : (unord ops.toList).isEmpty = true
  · refine e_draw hd hu ?_
    obtain ⟨fs, s', h1, h2, h3⟩ := h
    refine ⟨s', ?_, h3⟩
    have key : ∀ (l : List Oper) (s : St) (fs : List Ft) (s' : St), runFts C ops l s = some (fs, s') → runOps C ops l s = some s' := by
      intro l
      induction l with
      | nil => intro s fs s' h; rw [runFts] at h; cases h; rw [runOps]
      | cons o rest ih =>
        intro s fs s' h
        rw [runFts] at h
        rw [runOps]
        split at h
        · cases h
        · rename_i hw
          obtain ⟨⟨fs', s1⟩, h1, h2⟩ := Option.bind_eq_some_iff.1 h
          cases h2
          exact ih _ _ _ h1
        · rename_i hw
          obtain ⟨⟨v, H1, n1⟩, h0, h1⟩ := Option.bind_eq_some_iff.1 h
          obtain ⟨⟨fs', s1⟩, h1, h2⟩ := Option.bind_eq_some_iff.1 h1
          cases h2
          rw [h0]
          exact ih _ _ _ h1
    exact key _ _ _ _ h1
  · obtain ⟨fs, s', h1, h2, h3⟩ := h
    refine ⟨(.normal, s'), ?_, h3⟩
    rw [runC]
    simp only [hd, if_true, if_neg hu, h1]
    have : pairsOk fs (unord ops.toList) = true := by
      refine pairsOk_calm h2 _ ?_
      intro p hp
      rw [runFts_len _ h1]
      unfold unord at hp
      obtain ⟨i, hi, hp⟩ := List.mem_flatMap.1 hp
      obtain ⟨j, hj, hp⟩ := List.mem_filterMap.1 hp
      rw [List.mem_range] at hi hj
      split at hp
      · cases hp
      · cases hp; exact ⟨by simp only; omega, hi⟩
    show (if pairsOk fs (unord ops.toList) = true then some (Ex.normal, s') else none) = _
    rw [if_pos this]

theorem p_region {c : Code} {p : Way} {i : Nat} (hc : sub c p = .region i ops false) (h : EW false C ops ops.toList s (fun s' => con C c Q p .normal s')) : PAt C c p s Q := by
  simp only [PAt, hc]; exact w_region h
theorem p_draw {c : Code} {p : Way} {i : Nat} (hc : sub c p = .region i ops true) (hd : drawStat ops = true) (hu : (unord ops.toList).isEmpty = true) (h : EW false C ops ops.toList s (fun s' => con C c Q p .normal s')) : PAt C c p s Q := by
  simp only [PAt, hc]; exact w_draw hd hu h
theorem p_calm {c : Code} {p : Way} {i : Nat} (hc : sub c p = .region i ops true) (hd : drawStat ops = true) (h : EW true C ops ops.toList s (fun s' => con C c Q p .normal s')) : PAt C c p s Q := by
  simp only [PAt, hc]; exact w_calm hd h

variable {dst : Option Tmp} {ty : TypeId} {ps : String} {af : Array Edge} {g : Option (Nat × Bool)} {t u : TypeId} {x y z : Operand} {v : AV}

theorem w_move (hw : wantedA ops gs ⟨dst, .move x, ty, ps, af, g⟩ = some true) (h : EW q C ops rest ⟨putR gs dst (ev C ⟨gs, hom, nx⟩ x), hom, nx⟩ R) : EW q C ops (⟨dst, .move x, ty, ps, af, g⟩ :: rest) ⟨gs, hom, nx⟩ R :=
  w_op hw o_move (fun _ => rfl) h
theorem w_assign (hw : wantedA ops gs ⟨dst, .assign x, ty, ps, af, g⟩ = some true) (h : EW q C ops rest ⟨putR gs dst (ev C ⟨gs, hom, nx⟩ x), hom, nx⟩ R) : EW q C ops (⟨dst, .assign x, ty, ps, af, g⟩ :: rest) ⟨gs, hom, nx⟩ R :=
  w_op hw o_assign (fun _ => rfl) h
theorem w_move_d {d : Dat} (hw : wantedA ops gs ⟨dst, .move x, ty, ps, af, g⟩ = some true) (hx : ev C ⟨gs, hom, nx⟩ x = .d d) (h : EW q C ops rest ⟨putR gs dst (.d d), hom, nx⟩ R) : EW q C ops (⟨dst, .move x, ty, ps, af, g⟩ :: rest) ⟨gs, hom, nx⟩ R :=
  w_op hw (hx ▸ o_move) (fun _ => rfl) h
theorem w_assign_d {d : Dat} (hw : wantedA ops gs ⟨dst, .assign x, ty, ps, af, g⟩ = some true) (hx : ev C ⟨gs, hom, nx⟩ x = .d d) (h : EW q C ops rest ⟨putR gs dst (.d d), hom, nx⟩ R) : EW q C ops (⟨dst, .assign x, ty, ps, af, g⟩ :: rest) ⟨gs, hom, nx⟩ R :=
  w_op hw (hx ▸ o_assign) (fun _ => rfl) h
theorem w_move_v (v : AV) (hw : wantedA ops gs ⟨dst, .move x, ty, ps, af, g⟩ = some true) (hx : ev C ⟨gs, hom, nx⟩ x = v) (h : EW q C ops rest ⟨putR gs dst v, hom, nx⟩ R) : EW q C ops (⟨dst, .move x, ty, ps, af, g⟩ :: rest) ⟨gs, hom, nx⟩ R :=
  w_op hw (hx ▸ o_move) (fun _ => rfl) h
theorem w_assign_v (v : AV) (hw : wantedA ops gs ⟨dst, .assign x, ty, ps, af, g⟩ = some true) (hx : ev C ⟨gs, hom, nx⟩ x = v) (h : EW q C ops rest ⟨putR gs dst v, hom, nx⟩ R) : EW q C ops (⟨dst, .assign x, ty, ps, af, g⟩ :: rest) ⟨gs, hom, nx⟩ R :=
  w_op hw (hx ▸ o_assign) (fun _ => rfl) h
theorem w_pick_td {d : Dat} (hw : wantedA ops gs ⟨dst, .pick x y z, ty, ps, af, g⟩ = some true) (hc : ev C ⟨gs, hom, nx⟩ x = .d (.bool true)) (hx : ev C ⟨gs, hom, nx⟩ y = .d d) (h : EW q C ops rest ⟨putR gs dst (.d d), hom, nx⟩ R) : EW q C ops (⟨dst, .pick x y z, ty, ps, af, g⟩ :: rest) ⟨gs, hom, nx⟩ R :=
  w_op hw (hx ▸ o_pick_t hc) (fun _ => rfl) h
theorem w_pick_fd {d : Dat} (hw : wantedA ops gs ⟨dst, .pick x y z, ty, ps, af, g⟩ = some true) (hc : ev C ⟨gs, hom, nx⟩ x = .d (.bool false)) (hx : ev C ⟨gs, hom, nx⟩ z = .d d) (h : EW q C ops rest ⟨putR gs dst (.d d), hom, nx⟩ R) : EW q C ops (⟨dst, .pick x y z, ty, ps, af, g⟩ :: rest) ⟨gs, hom, nx⟩ R :=
  w_op hw (hx ▸ o_pick_f hc) (fun _ => rfl) h
theorem w_pick_t (hw : wantedA ops gs ⟨dst, .pick x y z, ty, ps, af, g⟩ = some true) (hc : ev C ⟨gs, hom, nx⟩ x = .d (.bool true)) (h : EW q C ops rest ⟨putR gs dst (ev C ⟨gs, hom, nx⟩ y), hom, nx⟩ R) : EW q C ops (⟨dst, .pick x y z, ty, ps, af, g⟩ :: rest) ⟨gs, hom, nx⟩ R :=
  w_op hw (o_pick_t hc) (fun _ => rfl) h
theorem w_pick_f (hw : wantedA ops gs ⟨dst, .pick x y z, ty, ps, af, g⟩ = some true) (hc : ev C ⟨gs, hom, nx⟩ x = .d (.bool false)) (h : EW q C ops rest ⟨putR gs dst (ev C ⟨gs, hom, nx⟩ z), hom, nx⟩ R) : EW q C ops (⟨dst, .pick x y z, ty, ps, af, g⟩ :: rest) ⟨gs, hom, nx⟩ R :=
  w_op hw (o_pick_f hc) (fun _ => rfl) h
theorem w_bin {op : BinOp} {r : Dat} (hw : wantedA ops gs ⟨dst, .binOp op t x y u, ty, ps, af, g⟩ = some true) (hr : binA C op t (ev C ⟨gs, hom, nx⟩ x) (ev C ⟨gs, hom, nx⟩ y) = some r)
    (h : EW q C ops rest ⟨putR gs dst (.d r), hom, nx⟩ R) : EW q C ops (⟨dst, .binOp op t x y u, ty, ps, af, g⟩ :: rest) ⟨gs, hom, nx⟩ R :=
  w_op hw (o_bin hr) (fun _ => rfl) h

/-- a comparison that ways part at -/
theorem w_cmp {ρ : Type} {A B : Option ρ} {r : ρ} {op : BinOp} {p : Prop} [Decidable p] (hm : (if p then A else B) = some r) (hw : wantedA ops gs ⟨dst, .binOp op t x y u, ty, ps, af, g⟩ = some true)
    (hr : binA C op t (ev C ⟨gs, hom, nx⟩ x) (ev C ⟨gs, hom, nx⟩ y) = some (.bool (decide p)))
    (ht : p → A = some r → EW q C ops rest ⟨putR gs dst (.d (.bool true)), hom, nx⟩ R) (hf : ¬ p → B = some r → EW q C ops rest ⟨putR gs dst (.d (.bool false)), hom, nx⟩ R) :
    EW q C ops (⟨dst, .binOp op t x y u, ty, ps, af, g⟩ :: rest) ⟨gs, hom, nx⟩ R := by
  by_cases hp : p
  · exact w_op hw (o_cmp hr (decide_eq_true hp)) (fun _ => rfl) (ht hp (by rwa [if_pos hp] at hm))
  · exact w_op hw (o_cmp hr (decide_eq_false hp)) (fun _ => rfl) (hf hp (by rwa [if_neg hp] at hm))
theorem w_cmpN {ρ : Type} {A B : Option ρ} {r : ρ} {op : BinOp} {p : Prop} [Decidable p] (hm : (if p then A else B) = some r) (hw : wantedA ops gs ⟨dst, .binOp op t x y u, ty, ps, af, g⟩ = some true)
    (hr : binA C op t (ev C ⟨gs, hom, nx⟩ x) (ev C ⟨gs, hom, nx⟩ y) = some (.bool (!decide p)))
    (ht : p → A = some r → EW q C ops rest ⟨putR gs dst (.d (.bool false)), hom, nx⟩ R) (hf : ¬ p → B = some r → EW q C ops rest ⟨putR gs dst (.d (.bool true)), hom, nx⟩ R) :
    EW q C ops (⟨dst, .binOp op t x y u, ty, ps, af, g⟩ :: rest) ⟨gs, hom, nx⟩ R := by
  by_cases hp : p
  · exact w_op hw (o_cmp hr (by simp [hp])) (fun _ => rfl) (ht hp (by rwa [if_pos hp] at hm))
  · exact w_op hw (o_cmp hr (by simp [hp])) (fun _ => rfl) (hf hp (by rwa [if_neg hp] at hm))
/-- any operation that gives a bool that ways part at -/
theorem w_split {ρ : Type} {A B : Option ρ} {r : ρ} {o : Oper} {b : Bool} {v : AV} {H1 : Hs} {n1 : Nat} (hm : (if b = true then A else B) = some r) (hw : wantedA ops gs o = some true)
    (ho : opV C (ev C ⟨gs, hom, nx⟩) o.op hom nx = some (v, H1, n1)) (hv : v = .d (.bool b)) (hq : q = true → (footA C nx (ev C ⟨gs, hom, nx⟩) o.op).md = some [])
    (ht : b = true → A = some r → EW q C ops rest ⟨putR gs o.dst (.d (.bool true)), H1, n1⟩ R) (hf : b = false → B = some r → EW q C ops rest ⟨putR gs o.dst (.d (.bool false)), H1, n1⟩ R) :
    EW q C ops (o :: rest) ⟨gs, hom, nx⟩ R := by
  cases b
  · exact w_op hw (hv ▸ ho) hq (hf rfl (by simpa using hm))
  · exact w_op hw (hv ▸ ho) hq (ht rfl (by simpa using hm))

theorem w_un {op : UnOp} {d r : Dat} (hw : wantedA ops gs ⟨dst, .unOp op t x, ty, ps, af, g⟩ = some true) (hx : ev C ⟨gs, hom, nx⟩ x = .d d) (hr : unD op d = some r)
    (h : EW q C ops rest ⟨putR gs dst (.d r), hom, nx⟩ R) : EW q C ops (⟨dst, .unOp op t x, ty, ps, af, g⟩ :: rest) ⟨gs, hom, nx⟩ R :=
  w_op hw (o_un hx hr) (fun _ => rfl) h
theorem w_conv (hw : wantedA ops gs ⟨dst, .convert t u x, ty, ps, af, g⟩ = some true) (hr : convA C t u (ev C ⟨gs, hom, nx⟩ x) = some v)
    (h : EW q C ops rest ⟨putR gs dst v, hom, nx⟩ R) : EW q C ops (⟨dst, .convert t u x, ty, ps, af, g⟩ :: rest) ⟨gs, hom, nx⟩ R :=
  w_op hw (o_conv hr) (fun _ => rfl) h
theorem w_field {f off m : Nat} {a : Bool} (hw : wantedA ops gs ⟨dst, .field t x f, ty, ps, af, g⟩ = some true) (hf : fo C t f = some (off, m, a)) (hr : partA (ev C ⟨gs, hom, nx⟩ x) off m a = some v)
    (h : EW q C ops rest ⟨putR gs dst v, hom, nx⟩ R) : EW q C ops (⟨dst, .field t x f, ty, ps, af, g⟩ :: rest) ⟨gs, hom, nx⟩ R :=
  w_op hw (o_field hf hr) (fun _ => rfl) h
theorem w_faddr {f off m : Nat} {a : Bool} (hw : wantedA ops gs ⟨dst, .fieldAddr t x f, ty, ps, af, g⟩ = some true) (hf : fo C t f = some (off, m, a)) (hm : m ≠ 0) (hr : addA (ev C ⟨gs, hom, nx⟩ x) off = some v)
    (h : EW q C ops rest ⟨putR gs dst v, hom, nx⟩ R) : EW q C ops (⟨dst, .fieldAddr t x f, ty, ps, af, g⟩ :: rest) ⟨gs, hom, nx⟩ R :=
  w_op hw (o_faddr hf hm hr) (fun _ => rfl) h
theorem w_extract {i : Nat} {vs : List AV} (hw : wantedA ops gs ⟨dst, .extract x i, ty, ps, af, g⟩ = some true) (hx : ev C ⟨gs, hom, nx⟩ x = .tup vs) (hr : vs[i]? = some v)
    (h : EW q C ops rest ⟨putR gs dst v, hom, nx⟩ R) : EW q C ops (⟨dst, .extract x i, ty, ps, af, g⟩ :: rest) ⟨gs, hom, nx⟩ R :=
  w_op hw (o_extract hx hr) (fun _ => rfl) h
theorem w_ncheck_pt {id o : Nat} (hw : wantedA ops gs ⟨dst, .nilCheck x, ty, ps, af, g⟩ = some true) (hx : ev C ⟨gs, hom, nx⟩ x = .pt id o)
    (h : EW q C ops rest ⟨putR gs dst (.pt id o), hom, nx⟩ R) : EW q C ops (⟨dst, .nilCheck x, ty, ps, af, g⟩ :: rest) ⟨gs, hom, nx⟩ R :=
  w_op hw (o_ncheck_pt hx) (fun _ => rfl) h
theorem w_ncheck_pe {id i j : Nat} (hw : wantedA ops gs ⟨dst, .nilCheck x, ty, ps, af, g⟩ = some true) (hx : ev C ⟨gs, hom, nx⟩ x = .pe id i j)
    (h : EW q C ops rest ⟨putR gs dst (.pe id i j), hom, nx⟩ R) : EW q C ops (⟨dst, .nilCheck x, ty, ps, af, g⟩ :: rest) ⟨gs, hom, nx⟩ R :=
  w_op hw (o_ncheck_pe hx) (fun _ => rfl) h
theorem w_ncheck_d {cs : List Dat} (hw : wantedA ops gs ⟨dst, .nilCheck x, ty, ps, af, g⟩ = some true) (hx : ev C ⟨gs, hom, nx⟩ x = .d (.ptr cs))
    (h : EW q C ops rest ⟨putR gs dst (.d (.ptr cs)), hom, nx⟩ R) : EW q C ops (⟨dst, .nilCheck x, ty, ps, af, g⟩ :: rest) ⟨gs, hom, nx⟩ R :=
  w_op hw (o_ncheck_d hx) (fun _ => rfl) h

/-- a type's cells, whether it is of many -/
def szg (C : Cfg) (t : TypeId) : Option (Nat × Bool) := match sizeT C t, aggT C t with | some n, some g => some (n, g) | _, _ => none
theorem szg_parts {n : Nat} {a : Bool} (h : szg C t = some (n, a)) : sizeT C t = some n ∧ aggT C t = some a := by
  unfold szg at h
  split at h
  · rename_i h1 h2; cases h; exact ⟨h1, h2⟩
  · cases h

/-- a load through a pointer to what stays -/
theorem w_load_d {m : Nat} {a : Bool} {cs : List Dat} {d : Dat} (hw : wantedA ops gs ⟨dst, .load t x, ty, ps, af, g⟩ = some true) (hz : szg C t = some (m, a)) (hx : ev C ⟨gs, hom, nx⟩ x = .d (.ptr cs)) (hr : (cutD cs 0 m).bind (mkD a) = some d)
    (h : EW q C ops rest ⟨putR gs dst (.d d), hom, nx⟩ R) : EW q C ops (⟨dst, .load t x, ty, ps, af, g⟩ :: rest) ⟨gs, hom, nx⟩ R := by
  obtain ⟨h1, h2⟩ := szg_parts hz
  exact w_op hw (o_load (by simp [loadA, h1, h2, hx, hr])) (fun _ => rfl) h

/-- a load out of a box -/
theorem w_load_b {l : List Item} {i id off m : Nat} {a : Bool} {cs : List AV} (hw : wantedA ops gs ⟨dst, .load t x, ty, ps, af, g⟩ = some true) (hz : szg C t = some (m, a)) (hH : HP hom nx l) (hi : l[i]? = some (.box id cs))
    (hx : ev C ⟨gs, hom, nx⟩ x = .pt id off) (hr : (cutA cs off m).bind (mkA a) = some v)
    (h : EW q C ops rest ⟨putR gs dst v, hom, nx⟩ R) : EW q C ops (⟨dst, .load t x, ty, ps, af, g⟩ :: rest) ⟨gs, hom, nx⟩ R := by
  obtain ⟨h1, h2⟩ := szg_parts hz
  have h3 : hom id = .box cs := hH.get hi
  exact w_op hw (o_load (by simp [loadA, h1, h2, hx, h3, hr])) (fun _ => rfl) h

theorem w_alloc {l : List Item} {yt : Ty} (hw : wantedA ops gs ⟨dst, .alloc t, ty, ps, af, g⟩ = some true) (hy : C.ty t = some yt) (hH : HP hom nx l)
    (h : ∀ id H' n', HP H' n' (.box id yt.zero :: l) → EW false C ops rest ⟨putR gs dst (.pt id 0), H', n'⟩ R) : EW false C ops (⟨dst, .alloc t, ty, ps, af, g⟩ :: rest) ⟨gs, hom, nx⟩ R :=
  w_op hw (o_alloc hy) (by simp) (h _ _ _ (hH.new rfl (by simp [Item.ok, upd])))

theorem o_box {e : Operand → AV} {H : Hs} {n m : Nat} (hz : sizeT C t = some m) (hl : (e x).cells.length = m) (ha : (e x).cells.all okC = true) : opV C e (.box t x) H n = some (.pt n 0, upd H n (.box (e x).cells), n + 1) := by
  rw [opV_act (fun _ _ _ h => by cases h)]; simp only [act, hz, Option.bind_some]; rw [if_pos ⟨hl, ha⟩]

/-- a variable made out of a value -/
theorem w_box {l : List Item} {m : Nat} {a : Bool} {cs : List AV} (hw : wantedA ops gs ⟨dst, .box t x, ty, ps, af, g⟩ = some true) (hz : szg C t = some (m, a)) (hc : (ev C ⟨gs, hom, nx⟩ x).cells = cs) (hl : cs.length = m) (ha : cs.all okC = true) (hH : HP hom nx l)
    (h : ∀ id H' n', HP H' n' (.box id cs :: l) → EW false C ops rest ⟨putR gs dst (.pt id 0), H', n'⟩ R) : EW false C ops (⟨dst, .box t x, ty, ps, af, g⟩ :: rest) ⟨gs, hom, nx⟩ R := by
  subst hc
  exact w_op hw (o_box (szg_parts hz).1 hl ha) (by simp) (h _ _ _ (hH.new rfl (by simp [Item.ok, upd])))

theorem set_perm {α : Type} : ∀ (l : List α) (i : Nat) (a b : α), l[i]? = some a → (b :: l.eraseIdx i).Perm (l.set i b) := by
  intro l
  induction l with
  | nil => intro i a b h; simp at h
  | cons x xs ih =>
    intro i a b h
    cases i with
    | zero => exact List.Perm.refl _
    | succ i =>
      simp only [List.getElem?_cons_succ] at h
      simp only [List.eraseIdx_cons_succ, List.set_cons_succ]
      exact (List.Perm.swap x b _).trans ((ih i a b h).cons x)

/-- a store into a box -/
theorem w_store_b {l : List Item} {i id off m : Nat} {a : Bool} {cs new : List AV} (hw : wantedA ops gs ⟨dst, .store t x y, ty, ps, af, g⟩ = some true) (hz : szg C t = some (m, a)) (hH : HP hom nx l) (hi : l[i]? = some (.box id cs))
    (hx : ev C ⟨gs, hom, nx⟩ x = .pt id off) (hc : (ev C ⟨gs, hom, nx⟩ y).cells = new) (hl : new.length = m) (ha : new.all okC = true) (ho : off + m ≤ cs.length)
    (h : ∀ H', HP H' nx (l.set i (.box id (putA cs off new))) → EW false C ops rest ⟨putR gs dst .undef, H', nx⟩ R) : EW false C ops (⟨dst, .store t x y, ty, ps, af, g⟩ :: rest) ⟨gs, hom, nx⟩ R := by
  subst hc
  obtain ⟨h1, h2⟩ := szg_parts hz
  have h3 : hom id = .box cs := hH.get hi
  have hp : HP (upd hom id (.box (putA cs off (ev C ⟨gs, hom, nx⟩ y).cells))) nx (l.set i (.box id (putA cs off (ev C ⟨gs, hom, nx⟩ y).cells))) :=
    ((hH.pick i hi).write (a := .box id cs) (by simp [Item.live]) rfl (by simp [Item.ok, upd])).perm (set_perm _ _ _ _ hi)
  refine w_op hw (o_store (H1 := upd hom id (.box (putA cs off (ev C ⟨gs, hom, nx⟩ y).cells))) ?_) (by simp) (h _ hp)
  simp only [storeA, h1, hx, h3]
  rw [if_pos ⟨hl, ha, ho⟩]

/-- the same, one plain cell -/
theorem w_store_bd {l : List Item} {i id off : Nat} {a : Bool} {cs : List AV} {d : Dat} (hw : wantedA ops gs ⟨dst, .store t x y, ty, ps, af, g⟩ = some true) (hz : szg C t = some (1, a)) (hH : HP hom nx l) (hi : l[i]? = some (.box id cs))
    (hx : ev C ⟨gs, hom, nx⟩ x = .pt id off) (hc : ev C ⟨gs, hom, nx⟩ y = .d d) (hd : d.cells = [d]) (ha : okC (.d d) = true) (ho : off + 1 ≤ cs.length)
    (h : ∀ H', HP H' nx (l.set i (.box id (cs.set off (.d d)))) → EW false C ops rest ⟨putR gs dst .undef, H', nx⟩ R) : EW false C ops (⟨dst, .store t x y, ty, ps, af, g⟩ :: rest) ⟨gs, hom, nx⟩ R := by
  refine w_store_b (new := [.d d]) hw hz hH hi hx (by rw [hc]; simp [AV.cells, hd]) rfl (by simpa using ha) ho (fun H' h' => h H' ?_)
  have : putA cs off [.d d] = cs.set off (.d d) := by
    simp only [putA, List.length_singleton]
    rw [List.set_eq_take_append_cons_drop, if_pos (by omega)]
    simp
  rwa [this] at h'
/-- the same, one cell -/
theorem w_store_b1 (v : AV) {l : List Item} {i id off : Nat} {a : Bool} {cs : List AV} (hw : wantedA ops gs ⟨dst, .store t x y, ty, ps, af, g⟩ = some true) (hz : szg C t = some (1, a)) (hH : HP hom nx l) (hi : l[i]? = some (.box id cs))
    (hx : ev C ⟨gs, hom, nx⟩ x = .pt id off) (hc : ev C ⟨gs, hom, nx⟩ y = v) (hd : v.cells = [v]) (ha : okC v = true) (ho : off + 1 ≤ cs.length)
    (h : ∀ H', HP H' nx (l.set i (.box id (cs.set off v))) → EW false C ops rest ⟨putR gs dst .undef, H', nx⟩ R) : EW false C ops (⟨dst, .store t x y, ty, ps, af, g⟩ :: rest) ⟨gs, hom, nx⟩ R := by
  refine w_store_b (new := [v]) hw hz hH hi hx (by rw [hc, hd]) rfl (by simpa using ha) ho (fun H' h' => h H' ?_)
  have : putA cs off [v] = cs.set off v := by
    simp only [putA, List.length_singleton]
    rw [List.set_eq_take_append_cons_drop, if_pos (by omega)]
    simp
  rwa [this] at h'

theorem w_load_bd {l : List Item} {i id off m : Nat} {a : Bool} {cs : List AV} {d : Dat} (hw : wantedA ops gs ⟨dst, .load t x, ty, ps, af, g⟩ = some true) (hz : szg C t = some (m, a)) (hH : HP hom nx l) (hi : l[i]? = some (.box id cs))
    (hx : ev C ⟨gs, hom, nx⟩ x = .pt id off) (hr : (cutA cs off m).bind (mkA a) = some (.d d))
    (h : EW q C ops rest ⟨putR gs dst (.d d), hom, nx⟩ R) : EW q C ops (⟨dst, .load t x, ty, ps, af, g⟩ :: rest) ⟨gs, hom, nx⟩ R := w_load_b hw hz hH hi hx hr h
theorem w_field_d {f off m : Nat} {a : Bool} {d : Dat} (hw : wantedA ops gs ⟨dst, .field t x f, ty, ps, af, g⟩ = some true) (hf : fo C t f = some (off, m, a)) (hr : partA (ev C ⟨gs, hom, nx⟩ x) off m a = some (.d d))
    (h : EW q C ops rest ⟨putR gs dst (.d d), hom, nx⟩ R) : EW q C ops (⟨dst, .field t x f, ty, ps, af, g⟩ :: rest) ⟨gs, hom, nx⟩ R := w_field hw hf hr h
theorem w_faddr_d {f off m : Nat} {a : Bool} {d : Dat} (hw : wantedA ops gs ⟨dst, .fieldAddr t x f, ty, ps, af, g⟩ = some true) (hf : fo C t f = some (off, m, a)) (hm : m ≠ 0) (hr : addA (ev C ⟨gs, hom, nx⟩ x) off = some (.d d))
    (h : EW q C ops rest ⟨putR gs dst (.d d), hom, nx⟩ R) : EW q C ops (⟨dst, .fieldAddr t x f, ty, ps, af, g⟩ :: rest) ⟨gs, hom, nx⟩ R := w_faddr hw hf hm hr h
theorem w_faddr_b {f off m id o : Nat} {a : Bool} (hw : wantedA ops gs ⟨dst, .fieldAddr t x f, ty, ps, af, g⟩ = some true) (hf : fo C t f = some (off, m, a)) (hm : m ≠ 0) (hx : ev C ⟨gs, hom, nx⟩ x = .pt id o) (o' : Nat) (ho : o + off = o')
    (h : EW q C ops rest ⟨putR gs dst (.pt id o'), hom, nx⟩ R) : EW q C ops (⟨dst, .fieldAddr t x f, ty, ps, af, g⟩ :: rest) ⟨gs, hom, nx⟩ R := w_faddr hw hf hm (by rw [hx, ← ho]; rfl) h
theorem w_faddr_e {f off m id i o : Nat} {a : Bool} (hw : wantedA ops gs ⟨dst, .fieldAddr t x f, ty, ps, af, g⟩ = some true) (hf : fo C t f = some (off, m, a)) (hm : m ≠ 0) (hx : ev C ⟨gs, hom, nx⟩ x = .pe id i o) (o' : Nat) (ho : o + off = o')
    (h : EW q C ops rest ⟨putR gs dst (.pe id i o'), hom, nx⟩ R) : EW q C ops (⟨dst, .fieldAddr t x f, ty, ps, af, g⟩ :: rest) ⟨gs, hom, nx⟩ R := w_faddr hw hf hm (by rw [hx, ← ho]; rfl) h
theorem w_extract_d {i : Nat} {vs : List AV} {d : Dat} (hw : wantedA ops gs ⟨dst, .extract x i, ty, ps, af, g⟩ = some true) (hx : ev C ⟨gs, hom, nx⟩ x = .tup vs) (hr : vs[i]? = some (.d d))
    (h : EW q C ops rest ⟨putR gs dst (.d d), hom, nx⟩ R) : EW q C ops (⟨dst, .extract x i, ty, ps, af, g⟩ :: rest) ⟨gs, hom, nx⟩ R := w_extract hw hx hr h
end
end Go.Jv
