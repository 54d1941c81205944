/- Steps of a walk beside a plain function: slices, calls, ends. -/
import Derived.Test.YtdcpfmjnkcodiaaDoorJwB
namespace Go.Jv

def idx {α : Type} (l : List α) (i : Int) : Option α := if 0 ≤ i then l[i.toNat]? else none
def w64 (n : Int) : Int := IntKind.i64.wrap n
def app {α : Type} (B : Nat) (l new : List α) : Option (List α) := if (l.length + new.length) * B ≤ 140737488355328 then some (l ++ new) else none
def cat (a b : ByteArray) : Option ByteArray := if a.size + b.size ≤ 9223372036854775807 then some (a ++ b) else none
/-- xs[lo:hi] -/
def cut {α : Type} (l : List α) (lo hi : Int) : Option (List α) := if 0 ≤ lo ∧ lo ≤ hi ∧ hi ≤ l.length then some ((l.drop lo.toNat).take (hi.toNat - lo.toNat)) else none
def scut (s : ByteArray) (lo hi : Int) : Option ByteArray := if 0 ≤ lo ∧ lo ≤ hi ∧ hi ≤ s.size then some (s.extract lo.toNat hi.toNat) else none
def sidx (s : ByteArray) (i : Int) : Option Int := if 0 ≤ i then (s[i.toNat]?).map fun b => (b.toNat : Int) else none
def eL {α : Type} (f : α → Dat) (l : List α) : Dat := .lst (l.map f)
def bAnd (k : IntKind) (a b : Int) : Int := k.wrap (BitVec.ofInt k.bits a &&& BitVec.ofInt k.bits b).toNat
def bOr (k : IntKind) (a b : Int) : Int := k.wrap (BitVec.ofInt k.bits a ||| BitVec.ofInt k.bits b).toNat
def bXor (k : IntKind) (a b : Int) : Int := k.wrap (BitVec.ofInt k.bits a ^^^ BitVec.ofInt k.bits b).toNat
def bAndNot (k : IntKind) (a b : Int) : Int := k.wrap (BitVec.ofInt k.bits a &&& ~~~ BitVec.ofInt k.bits b).toNat
def shlI (k : IntKind) (a b : Int) : Option Int := if b < 0 then none else some (k.wrap (a * 2 ^ (min b.toNat k.bits)))
def shrI (k : IntKind) (a b : Int) : Option Int := if b < 0 then none else some (a.fdiv (2 ^ (min b.toNat k.bits)))
def quoI (k : IntKind) (a b : Int) : Option Int := if b = 0 then none else some (k.wrap (a.tdiv b))
def remI (a b : Int) : Option Int := if b = 0 then none else some (a.tmod b)

structure A2 (α : Type) where
  e0 : α
  e1 : α
  deriving Inhabited, DecidableEq
structure A3 (α : Type) where
  e0 : α
  e1 : α
  e2 : α
  deriving Inhabited, DecidableEq
structure A4 (α : Type) where
  e0 : α
  e1 : α
  e2 : α
  e3 : α
  deriving Inhabited, DecidableEq
def A2.get {α : Type} (a : A2 α) (i : Int) : Option α := if i = 0 then some a.e0 else if i = 1 then some a.e1 else none
def A3.get {α : Type} (a : A3 α) (i : Int) : Option α := if i = 0 then some a.e0 else if i = 1 then some a.e1 else if i = 2 then some a.e2 else none
def A4.get {α : Type} (a : A4 α) (i : Int) : Option α := if i = 0 then some a.e0 else if i = 1 then some a.e1 else if i = 2 then some a.e2 else if i = 3 then some a.e3 else none
def A2.enc {α : Type} (f : α → Dat) (a : A2 α) : Dat := .agg [f a.e0, f a.e1]
def A3.enc {α : Type} (f : α → Dat) (a : A3 α) : Dat := .agg [f a.e0, f a.e1, f a.e2]
def A4.enc {α : Type} (f : α → Dat) (a : A4 α) : Dat := .agg [f a.e0, f a.e1, f a.e2, f a.e3]

section
variable {C : Cfg} {s : St} {gs : Nat → AV} {hom : Hs} {nx : Nat} {q : Bool} {ops : Array Oper} {rest : List Oper} {R : St → Prop} {Q : Ex → St → Prop}

/-- a slot known by its value -/
theorem jmp (i : Nat) (v : AV) {c : Code} {p : Way} {g : Nat → AV} {H : Hs} {n : Nat} (hv : g i = v) (h : PAt C c p ⟨upd g i v, H, n⟩ Q) : PAt C c p ⟨g, H, n⟩ Q := by
  have : upd g i v = g := by funext j; simp only [upd]; split
                             · rename_i e; rw [e, hv]
                             · rfl
  rwa [this] at h

theorem pd {F : Func} {rs : List Dat} {ex : Ex} {vs : List AV} {H' : Hs} (he : ex = .ret ∨ ex = .normal) (h1 : resultsA C s F.results.toList = some vs) (h2 : frzAll s.homes vs = some (rs, H')) : PostD C F rs ex s :=
  ⟨fun i hi => (by rcases he with e | e <;> rw [e] at hi <;> cases hi), vs, H', h1, h2⟩

variable {dst : Option Tmp} {ty : TypeId} {ps : String} {af : Array Edge} {g : Option (Nat × Bool)} {t u : TypeId} {x y z : Operand} {v : AV} {ρ : Type} {r : ρ}

/-- operations on a plain value that may fail -/
theorem w_opt {β : Type} {m : Option β} {k : β → Option ρ} {o : Oper} {f : β → AV} (hm : m.bind k = some r) (hw : wantedA ops gs o = some true)
    (ho : ∀ y, m = some y → opV C (ev C ⟨gs, hom, nx⟩) o.op hom nx = some (f y, hom, nx)) (hq : q = true → (footA C nx (ev C ⟨gs, hom, nx⟩) o.op).md = some [])
    (h : ∀ y, k y = some r → EW q C ops rest ⟨putR gs o.dst (f y), hom, nx⟩ R) : EW q C ops (o :: rest) ⟨gs, hom, nx⟩ R := by
  obtain ⟨y, h1, h2⟩ := Option.bind_eq_some_iff.1 hm
  exact w_op hw (ho y h1) hq (h y h2)

theorem get_of_idx {α : Type} {l : List α} {i : Int} {v : α} (h : idx l i = some v) : 0 ≤ i ∧ l[i.toNat]? = some v := by
  unfold idx at h
  split at h
  · rename_i h1; exact ⟨h1, h⟩
  · cases h

theorem w_idx {α : Type} {enc : α → Dat} {l : List α} {i : Int} {kd : IntKind} {k : α → Option ρ} {el : TypeId} {m : Nat} {a : Bool} (hm : (idx l i).bind k = some r) (hw : wantedA ops gs ⟨dst, .indexAddr t x y, ty, ps, af, g⟩ = some true)
    (he : elemT C t = some el) (hz : szg C el = some (m, a)) (hc : ∀ v, (enc v).cells.length = m) (hx : ev C ⟨gs, hom, nx⟩ x = .d (.lst (l.map enc))) (hy : ev C ⟨gs, hom, nx⟩ y = .d (.int kd i))
    (h : ∀ v, k v = some r → EW q C ops rest ⟨putR gs dst (.d (.ptr (enc v).cells)), hom, nx⟩ R) : EW q C ops (⟨dst, .indexAddr t x y, ty, ps, af, g⟩ :: rest) ⟨gs, hom, nx⟩ R := by
  refine w_opt (f := fun v => .d (.ptr (enc v).cells)) hm hw (fun v hv => ?_) (fun _ => rfl) h
  obtain ⟨h0, h1⟩ := get_of_idx hv
  refine o_iaddr ?_
  simp only [indexAddrA, hx, hy, intOfA, he]
  rw [if_neg (by omega)]
  simp [h1, (szg_parts hz).1, hc]

/-- an element of an own slice -/
theorem w_idx_own {α : Type} {enc : α → Dat} {l : List α} {i : Int} {kd : IntKind} {k : α → Option ρ} {el : TypeId} {m : Nat} {a : Bool} {L : List Item} {j : Nat} {w : AV} (hm : (idx l i).bind k = some r) (hw : wantedA ops gs ⟨dst, .indexAddr t x y, ty, ps, af, g⟩ = some true)
    (he : elemT C t = some el) (hz : szg C el = some (m, a)) (hH : HP hom nx L) (hj : L[j]? = some (.own w ⟨el, m⟩ (l.map enc))) (hx : ev C ⟨gs, hom, nx⟩ x = w) (hy : ev C ⟨gs, hom, nx⟩ y = .d (.int kd i))
    (h : ∀ id v, k v = some r → w = .sl id 0 l.length → l[i.toNat]? = some v → EW q C ops rest ⟨putR gs dst (.pe id i.toNat 0), hom, nx⟩ R) : EW q C ops (⟨dst, .indexAddr t x y, ty, ps, af, g⟩ :: rest) ⟨gs, hom, nx⟩ R := by
  obtain ⟨v, h1, h2⟩ := Option.bind_eq_some_iff.1 hm
  obtain ⟨h0, h1⟩ := get_of_idx h1
  rcases hH.get hj with ⟨_, h3⟩ | ⟨id, ys, h3, h4⟩
  · simp only [List.map_eq_nil_iff] at h3
    subst h3
    simp at h1
  · rw [List.length_map] at h3
    refine w_op hw (v := .pe id i.toNat 0) (H1 := hom) (n1 := nx) (o_iaddr ?_) (fun _ => rfl) (h id v h2 h3 h1)
    have hl : i.toNat < l.length := (List.getElem?_eq_some_iff.1 h1).1
    simp only [indexAddrA, hx, hy, intOfA, he, h3]
    rw [if_neg (by omega)]
    simp only [szIs, h4, szOf, (szg_parts hz).1]
    rw [if_pos ⟨by omega, by simp⟩]
    simp

/-- a load out of an own slice's element -/
theorem w_load_e {α : Type} {enc : α → Dat} {l : List α} {i o : Nat} {el : TypeId} {m m' : Nat} {a : Bool} {L : List Item} {j id : Nat} {w : AV} {e : α} {d : Dat} (hw : wantedA ops gs ⟨dst, .load t x, ty, ps, af, g⟩ = some true) (hz : szg C t = some (m, a))
    (hH : HP hom nx L) (hj : L[j]? = some (.own w ⟨el, m'⟩ (l.map enc))) (hid : w = .sl id 0 l.length) (hx : ev C ⟨gs, hom, nx⟩ x = .pe id i o) (he : l[i]? = some e) (hr : (cutD (enc e).cells o m).bind (mkD a) = some d)
    (h : EW q C ops rest ⟨putR gs dst (.d d), hom, nx⟩ R) : EW q C ops (⟨dst, .load t x, ty, ps, af, g⟩ :: rest) ⟨gs, hom, nx⟩ R := by
  obtain ⟨h1, h2⟩ := szg_parts hz
  rcases hH.get hj with ⟨h3, _⟩ | ⟨id', ys, h3, h4⟩
  · rw [hid] at h3; cases h3
  · rw [hid] at h3
    injection h3 with h5
    subst h5
    have hg : (l.map enc ++ ys)[i]? = some (enc e) := by
      rw [List.getElem?_append_left (by simpa using (List.getElem?_eq_some_iff.1 he).1)]
      simp [he]
    exact w_op hw (o_load (by simp only [loadA, h1, h2, hx, h4, hg, hr]; rfl)) (fun _ => rfl) h

theorem w_scal {β : Type} {m : Option β} {k : β → Option ρ} {f : FuncId} {args : Array Operand} {ts : Array TypeId} {xs : List Dat} {E : β → List Dat} (hm : m.bind k = some r)
    (hw : wantedA ops gs ⟨dst, .call ⟨.value (.func f), args, ts⟩, ty, ps, af, g⟩ = some true) (hs : C.sig f = .scal) (hf : seeAll (see 4 hom) (args.toList.map (ev C ⟨gs, hom, nx⟩)) = some xs)
    (hc : ∀ y, m = some y → callD C f xs = some (E y)) (hp : ∀ y, (E y).all plainD = true)
    (h : ∀ y, k y = some r → EW q C ops rest ⟨putR gs dst (tupA ((E y).map .d)), hom, nx⟩ R) : EW q C ops (⟨dst, .call ⟨.value (.func f), args, ts⟩, ty, ps, af, g⟩ :: rest) ⟨gs, hom, nx⟩ R :=
  w_opt (f := fun y => tupA ((E y).map .d)) hm hw (fun y hy => o_scal rfl hs hf (hc y hy) (hp y)) (fun _ => by simp [footA, fnOf, ev, hs]) h

theorem w_dat {β : Type} {m : Option β} {k : β → Option ρ} {f : FuncId} {args : Array Operand} {ts : Array TypeId} {xs : List Dat} {E : β → List Dat} (hm : m.bind k = some r)
    (hw : wantedA ops gs ⟨dst, .call ⟨.value (.func f), args, ts⟩, ty, ps, af, g⟩ = some true) (hs : C.sig f = .dat) (hf : frzAll hom (args.toList.map (ev C ⟨gs, hom, nx⟩)) = some (xs, hom))
    (hd : ((args.toList.map (ev C ⟨gs, hom, nx⟩)).all fun x => (datA x).isSome) = true) (hc : ∀ y, m = some y → callD C f xs = some (E y))
    (h : ∀ y, k y = some r → EW q C ops rest ⟨putR gs dst (tupA ((E y).map .d)), hom, nx⟩ R) : EW q C ops (⟨dst, .call ⟨.value (.func f), args, ts⟩, ty, ps, af, g⟩ :: rest) ⟨gs, hom, nx⟩ R :=
  w_opt (f := fun y => tupA ((E y).map .d)) hm hw (fun y hy => o_dat rfl hs hf (hc y hy)) (fun _ => by
    simp only [footA, fnOf, ev, hs, List.map_nil, List.append_nil]
    have : ((args.toList.map (ev C ⟨gs, hom, nx⟩)).all fun x => (datA x).isSome) = true := hd
    rw [if_pos this]; rfl) h

theorem sn {f : AV → Option Dat} : seeAll f [] = some [] := rfl
theorem sc {f : AV → Option Dat} {v : AV} {vs : List AV} {d : Dat} {ds : List Dat} (h : f v = some d) (k : seeAll f vs = some ds) : seeAll f (v :: vs) = some (d :: ds) := by simp [seeAll, h, k]
theorem so {H : Hs} {n : Nat} {L : List Item} {j : Nat} {w : AV} {z : Row} {xs : List Dat} (N : Nat) (hH : HP H n L) (hj : L[j]? = some (.own w z xs)) : see (N + 1) H w = some (.lst xs) := by
  rcases hH.get hj with ⟨rfl, rfl⟩ | ⟨id, ys, rfl, h4⟩
  · rfl
  · simp only [see, h4]
    rw [if_pos ⟨by omega, by simp⟩]
    simp [win]

theorem w_len {m : Int} (hw : wantedA ops gs ⟨dst, .call ⟨.builtin .len, #[x], #[t]⟩, ty, ps, af, g⟩ = some true) (hl : lenA C t (ev C ⟨gs, hom, nx⟩ x) = some m)
    (h : EW q C ops rest ⟨putR gs dst (.d (.int .i64 m)), hom, nx⟩ R) : EW q C ops (⟨dst, .call ⟨.builtin .len, #[x], #[t]⟩, ty, ps, af, g⟩ :: rest) ⟨gs, hom, nx⟩ R :=
  w_op hw (o_len hl) (fun _ => rfl) h

theorem elemT_ty {t el : TypeId} (he : elemT C t = some el) : ∃ y, C.ty t = some y ∧ y.desc = .slice el := by
  unfold elemT at he
  split at he
  · rename_i y hy
    split at he
    · rename_i e hd; cases he; exact ⟨y, hy, hd⟩
    · cases he
  · cases he

/-- how long a slice is that stays -/
theorem w_len_d {α : Type} {enc : α → Dat} {l : List α} {el : TypeId} (hw : wantedA ops gs ⟨dst, .call ⟨.builtin .len, #[x], #[t]⟩, ty, ps, af, g⟩ = some true) (he : elemT C t = some el) (hx : ev C ⟨gs, hom, nx⟩ x = .d (.lst (l.map enc)))
    (h : EW q C ops rest ⟨putR gs dst (.d (.int .i64 (l.length : Int))), hom, nx⟩ R) : EW q C ops (⟨dst, .call ⟨.builtin .len, #[x], #[t]⟩, ty, ps, af, g⟩ :: rest) ⟨gs, hom, nx⟩ R := by
  obtain ⟨y, h1, h2⟩ := elemT_ty he
  exact w_len hw (by simp [lenA, h1, h2, hx]) h

theorem w_len_own {α : Type} {enc : α → Dat} {l : List α} {el : TypeId} {L : List Item} {j : Nat} {w : AV} {z : Row} (hw : wantedA ops gs ⟨dst, .call ⟨.builtin .len, #[x], #[t]⟩, ty, ps, af, g⟩ = some true) (he : elemT C t = some el)
    (hH : HP hom nx L) (hj : L[j]? = some (.own w z (l.map enc))) (hx : ev C ⟨gs, hom, nx⟩ x = w)
    (h : EW q C ops rest ⟨putR gs dst (.d (.int .i64 (l.length : Int))), hom, nx⟩ R) : EW q C ops (⟨dst, .call ⟨.builtin .len, #[x], #[t]⟩, ty, ps, af, g⟩ :: rest) ⟨gs, hom, nx⟩ R := by
  obtain ⟨y, h1, h2⟩ := elemT_ty he
  refine w_len hw ?_ h
  rcases hH.get hj with ⟨h3, h4⟩ | ⟨id, ys, h3, h4⟩
  · simp only [List.map_eq_nil_iff] at h4
    subst h4
    simp [lenA, h1, h2, hx, h3]
  · simp [lenA, h1, h2, hx, h3]

theorem w_len_s {b : ByteArray} (hw : wantedA ops gs ⟨dst, .call ⟨.builtin .len, #[x], #[t]⟩, ty, ps, af, g⟩ = some true) (he : (C.ty t).map (·.desc) = some .string) (hx : ev C ⟨gs, hom, nx⟩ x = .d (.str b))
    (h : EW q C ops rest ⟨putR gs dst (.d (.int .i64 (b.size : Int))), hom, nx⟩ R) : EW q C ops (⟨dst, .call ⟨.builtin .len, #[x], #[t]⟩, ty, ps, af, g⟩ :: rest) ⟨gs, hom, nx⟩ R := by
  obtain ⟨y, h1, h2⟩ := Option.map_eq_some_iff.1 he
  exact w_len hw (by simp [lenA, h1, h2, hx]) h

/-- an empty slice is own -/
theorem HP.addNil {H : Hs} {n : Nat} {L : List Item} (z : Row) (hH : HP H n L) : HP H n (.own .nil z [] :: L) :=
  ⟨by rw [List.flatMap_cons]; simpa [Item.live, idOf] using hH.nd, fun it hi => by
    rcases List.mem_cons.1 hi with rfl | hi
    · exact .inl ⟨rfl, rfl⟩
    · exact hH.ok it hi, fun it hi i hm => by
    rcases List.mem_cons.1 hi with rfl | hi
    · simp [Item.ids, idOf] at hm
    · exact hH.lt it hi i hm⟩

theorem sub_flatMap {α β : Type} (f : α → List β) : ∀ {l l' : List α}, l'.Sublist l → (l'.flatMap f).Sublist (l.flatMap f) := by
  intro l l' h
  induction h with
  | slnil => exact List.Sublist.refl _
  | cons a _ ih => rw [List.flatMap_cons]; exact ih.trans (List.sublist_append_right _ _)
  | cons_cons a _ ih => rw [List.flatMap_cons, List.flatMap_cons]; exact (List.Sublist.refl _).append ih

theorem HP.sub {H : Hs} {n : Nat} {L L' : List Item} (hH : HP H n L) (hs : L'.Sublist L) : HP H n L' :=
  ⟨List.Nodup.sublist (sub_flatMap Item.live hs) hH.nd, fun it hi => hH.ok it (hs.subset hi), fun it hi => hH.lt it (hs.subset hi)⟩

/-- an own slice is given up: its home is none's -/
theorem base_own {H : Hs} {n : Nat} {L : List Item} {j : Nat} {w : AV} {z : Row} {xs : List Dat} (hH : HP H n L) (hj : L[j]? = some (.own w z xs)) : ∃ H1, baseA H z w = some (xs, H1) ∧ HP H1 n (L.eraseIdx j) := by
  rcases hH.get hj with ⟨rfl, rfl⟩ | ⟨id, ys, rfl, h4⟩
  · exact ⟨H, rfl, hH.sub (List.eraseIdx_sublist _ _)⟩
  · refine ⟨upd H id .dead, ?_, (hH.pick j hj).other (by simp [Item.live, idOf])⟩
    simp [baseA, h4]

/-- the list that a value shows, to be put behind another -/
def Shows (H : Hs) (x : AV) (new : List Dat) : Prop := see 1 H x = some (.lst new)

theorem shows_d {H : Hs} {xs : List Dat} : Shows H (.d (.lst xs)) xs := rfl
theorem shows_nil {H : Hs} : Shows H .nil [] := rfl
theorem shows_own {H : Hs} {n : Nat} {L : List Item} {j : Nat} {w : AV} {z : Row} {xs : List Dat} (hH : HP H n L) (hj : L[j]? = some (.own w z xs)) : Shows H w xs := so 0 hH hj

/-- more behind an own slice -/
theorem w_append {α : Type} {enc : α → Dat} {l new : List α} {B : Nat} {k : List α → Option ρ} {el : TypeId} {m : Nat} {a : Bool} {L : List Item} {j : Nat} {w : AV} (hm : (app B l new).bind k = some r)
    (hw : wantedA ops gs ⟨dst, .call ⟨.builtin .append, #[x, y], #[t, t]⟩, ty, ps, af, g⟩ = some true) (he : elemT C t = some el) (hz : szg C el = some (m, a)) (hB : (C.ty el).map (·.bytes) = some B) (h0 : 0 < m ∧ 0 < B) (hc : ∀ v, (enc v).cells.length = m)
    (hH : HP hom nx L) (hj : L[j]? = some (.own w ⟨el, m⟩ (l.map enc))) (hx : ev C ⟨gs, hom, nx⟩ x = w) (hy : Shows hom (ev C ⟨gs, hom, nx⟩ y) (new.map enc))
    (h : ∀ l' w' H' n', k l' = some r → HP H' n' (.own w' ⟨el, m⟩ (l'.map enc) :: L.eraseIdx j) → EW false C ops rest ⟨putR gs dst w', H', n'⟩ R) :
    EW false C ops (⟨dst, .call ⟨.builtin .append, #[x, y], #[t, t]⟩, ty, ps, af, g⟩ :: rest) ⟨gs, hom, nx⟩ R := by
  obtain ⟨l', h1, h2⟩ := Option.bind_eq_some_iff.1 hm
  unfold app at h1
  split at h1
  · rename_i hb
    cases h1
    obtain ⟨H1, h3, h4⟩ := base_own hH hj
    obtain ⟨ye, hye, h5⟩ := Option.map_eq_some_iff.1 hB
    have h6 : ye.size = m := by have := (szg_parts hz).1; simpa [sizeT, hye] using this
    have hp : HP (upd H1 nx (.own ⟨el, m⟩ ((l ++ new).map enc))) (nx + 1) (.own (.sl nx 0 (l ++ new).length) ⟨el, m⟩ ((l ++ new).map enc) :: L.eraseIdx j) := by
      refine h4.new (by simp [Item.ids, idOf]) ?_
      exact .inr ⟨nx, [], by simp, by simp [upd]⟩
    refine w_op hw (o_append (r := (.sl nx 0 (l ++ new).length, upd H1 nx (.own ⟨el, m⟩ ((l ++ new).map enc)), nx + 1)) ?_) (by simp) (h _ _ _ _ h2 hp)
    simp only [Shows] at hy
    simp only [appendA, if_true, he, hye, h6, hx, h3, hy, h5]
    rw [if_pos]
    · simp
    · refine ⟨?_, h0.1, h0.2, by simpa using hb⟩
      simp [hc]
  · cases h1

end
end Go.Jv
