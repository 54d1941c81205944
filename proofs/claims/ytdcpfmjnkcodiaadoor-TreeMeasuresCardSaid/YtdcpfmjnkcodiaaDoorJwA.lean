/- Walks of the abstract machine beside a plain function: what the plain function answers, the machine's run ends in. -/
import Derived.Test.YtdcpfmjnkcodiaaDoorJvZ
namespace Go.Jv

def bodyOf (F : Func) : Code := F.body.getD .skip

/-- a place in a code: the way down from its root -/
inductive Way where
  | o
  | a (p : Way)
  | b (p : Way)

def kid0 : Code → Code
  | .seq a _ => a
  | .cond _ a _ => a
  | .block _ a => a
  | .loop a => a
  | _ => .skip
def kid1 : Code → Code
  | .seq _ b => b
  | .cond _ _ b => b
  | _ => .skip

/-- the part of a code at a place -/
def sub (c : Code) : Way → Code
  | .o => c
  | .a p => kid0 (sub c p)
  | .b p => kid1 (sub c p)

/-- what must hold behind the first part of a code -/
def beh (C : Cfg) (c : Code) (Q : Ex → St → Prop) : Ex → St → Prop :=
  match c with
  | .seq _ b => Nx (fun s' => EC C b s' Q) Q
  | .block id _ => Blk id Q
  | .loop a => Nx (fun s' => EC C (.loop a) s' Q) Q
  | _ => Q

/-- what must hold behind the part of a code at a place -/
def con (C : Cfg) (c : Code) (Q : Ex → St → Prop) : Way → Ex → St → Prop
  | .o => Q
  | .a p => beh C (sub c p) (con C c Q p)
  | .b p => con C c Q p

def PAt (C : Cfg) (c : Code) (p : Way) (s : St) (Q : Ex → St → Prop) : Prop := EC C (sub c p) s (con C c Q p)

section
variable {C : Cfg} {c a b : Code} {p : Way} {s : St} {Q : Ex → St → Prop} {x : Operand} {i : Nat} {ex : Ex}

theorem PAt_nil (C : Cfg) (c : Code) (s : St) (Q : Ex → St → Prop) : PAt C c .o s Q = EC C c s Q := rfl

theorem p_seq (h : sub c p = .seq a b) (k : PAt C c p.a s Q) : PAt C c p s Q := by
  simp only [PAt, sub, con, h, beh, kid0] at k ⊢
  exact e_seq k
theorem p_block (h : sub c p = .block i a) (k : PAt C c p.a s Q) : PAt C c p s Q := by
  simp only [PAt, sub, con, h, beh, kid0] at k ⊢
  exact e_block k
theorem p_loop (h : sub c p = .loop a) (k : PAt C c p.a s Q) : PAt C c p s Q := by
  simp only [PAt, sub, con, h, beh, kid0] at k ⊢
  exact e_loop k
theorem p_cond_t (h : sub c p = .cond x a b) (hx : ev C s x = .d (.bool true)) (k : PAt C c p.a s Q) : PAt C c p s Q := by
  simp only [PAt, sub, con, h, beh, kid0] at k ⊢
  exact e_cond_t hx k
theorem p_cond_f (h : sub c p = .cond x a b) (hx : ev C s x = .d (.bool false)) (k : PAt C c p.b s Q) : PAt C c p s Q := by
  simp only [PAt, sub, con, h, kid1] at k ⊢
  exact e_cond_f hx k
theorem p_condB {ρ : Type} {r : ρ} {A B : Option ρ} {v : Bool} (h : sub c p = .cond x a b) (hm : (if v = true then A else B) = some r) (hx : ev C s x = .d (.bool v)) (ht : v = true → A = some r → PAt C c p.a s Q) (hf : v = false → B = some r → PAt C c p.b s Q) : PAt C c p s Q := by
  cases v
  · exact p_cond_f h hx (hf rfl (by simpa using hm))
  · exact p_cond_t h hx (ht rfl (by simpa using hm))
theorem p_skip (h : sub c p = .skip) (k : con C c Q p .normal s) : PAt C c p s Q := by
  simp only [PAt, h]; exact e_skip k
theorem p_ret (h : sub c p = .ret) (k : con C c Q p .ret s) : PAt C c p s Q := by
  simp only [PAt, h]; exact e_ret k
theorem p_exit (h : sub c p = .exit i) (k : con C c Q p (.exit i) s) : PAt C c p s Q := by
  simp only [PAt, h]; exact e_exit k

theorem con_ret : ∀ {p : Way}, Q .ret s → con C c Q p .ret s := by
  intro p
  induction p with
  | o => exact id
  | a p ih =>
    intro h
    simp only [con]
    generalize sub c p = d
    cases d <;> exact ih h
  | b p ih => exact ih
theorem con_o (h : Q ex s) : con C c Q .o ex s := h
theorem n_seq (h : sub c p = .seq a b) (k : PAt C c p.b s Q) : con C c Q p.a .normal s := by
  simp only [PAt, sub, con, h, beh, kid1] at k ⊢; exact k
theorem n_loop (h : sub c p = .loop a) (k : PAt C c p s Q) : con C c Q p.a .normal s := by
  simp only [PAt, con, h, beh] at k ⊢; exact k
theorem n_blk (h : sub c p = .block i a) (k : con C c Q p .normal s) : con C c Q p.a .normal s := by
  simp only [con, h, beh]; exact k
theorem n_b (k : con C c Q p ex s) : con C c Q p.b ex s := k
theorem n_cond (h : sub c p = .cond x a b) (k : con C c Q p ex s) : con C c Q p.a ex s := by
  simp only [con, h, beh]; exact k
theorem x_seq (h : sub c p = .seq a b) (k : con C c Q p (.exit i) s) : con C c Q p.a (.exit i) s := by
  simp only [con, h, beh]; exact k
theorem x_loop (h : sub c p = .loop a) (k : con C c Q p (.exit i) s) : con C c Q p.a (.exit i) s := by
  simp only [con, h, beh]; exact k
theorem x_blk (h : sub c p = .block i a) (k : con C c Q p .normal s) : con C c Q p.a (.exit i) s := by
  simp only [con, h, beh]; exact blk_e k
theorem x_out {j : Nat} (h : sub c p = .block j a) (hn : i ≠ j) (k : con C c Q p (.exit i) s) : con C c Q p.a (.exit i) s := by
  simp only [con, h, beh]; exact blk_o hn k
end

/-- how a call with trees ends -/
def PostD (C : Cfg) (F : Func) (rs : List Dat) : Ex → St → Prop := fun ex s => (∀ i, ex ≠ .exit i) ∧ ∃ vs H', resultsA C s F.results.toList = some vs ∧ frzAll s.homes vs = some (rs, H')

/-- the slots when a function begins -/
def ini (vs : List AV) : Nat → AV := fun i => if i < vs.length then vs.getD i default else .undef

theorem callD_at {C : Cfg} {f : FuncId} {xs rs : List Dat} {F : Func} (hx : C.ext f xs = none) (hf : C.fn f = some F) (hb : F.body.isSome = true)
    (h : PAt C (bodyOf F) .o { regs := ini (xs.map .d), homes := fun _ => .dead, next := 0 } (PostD C F rs)) : callD C f xs = some rs := by
  obtain ⟨code, hc⟩ := Option.isSome_iff_exists.1 hb
  have e : bodyOf F = code := by simp [bodyOf, hc]
  refine callD_of hx hf hc ?_
  have hi : (fun i => if i < xs.length then AV.d (xs.getD i default) else AV.undef) = ini (xs.map .d) := by
    funext i
    simp only [ini, List.length_map]
    split
    · rename_i hlt
      simp [hlt]
    · rfl
  rw [hi]
  rw [e, PAt_nil] at h
  refine Ends.mono h ?_
  rintro ⟨ex, s⟩ ⟨h1, vs, H', h2, h3⟩
  exact ⟨h1, vs, rs, H', h2, h3, rfl⟩

theorem callR_at {C : Cfg} {f : FuncId} {vs : List AV} {F : Func} {H : Hs} {n : Nat} {Q : List AV → Hs → Nat → Prop} (hf : C.fn f = some F) (hb : F.body.isSome = true)
    (h : PAt C (bodyOf F) .o { regs := ini vs, homes := H, next := n } fun ex s => (∀ i, ex ≠ .exit i) ∧ ∃ rs, resultsA C s F.results.toList = some rs ∧ Q rs s.homes s.next) :
    ∃ rs H1 n1, callR C f vs H n = some (rs, H1, n1) ∧ Q rs H1 n1 := by
  obtain ⟨code, hc⟩ := Option.isSome_iff_exists.1 hb
  have e : bodyOf F = code := by simp [bodyOf, hc]
  rw [e, PAt_nil] at h
  obtain ⟨⟨ex, s⟩, h1, h2, rs, h3, h4⟩ := h
  exact ⟨rs, s.homes, s.next, callR_of hf hc ⟨(ex, s), h1, h2, h3, rfl, rfl⟩, h4⟩

/-- a piece of memory that a walk knows -/
inductive Item where
  /-- a slice that may grow: nil, or all of a home from its begin on -/
  | own (v : AV) (z : Row) (xs : List Dat)
  | box (h : Nat) (cs : List AV)
  /-- a slice that stays as it is -/
  | imm (v : AV) (z : Row) (xs : List Dat)

def Item.live : Item → List Nat
  | .own v _ _ => idOf v
  | .box h _ => [h]
  | .imm _ _ _ => []

def Item.ids : Item → List Nat
  | .own v _ _ => idOf v
  | .box h _ => [h]
  | .imm v _ _ => idOf v

def Item.ok (H : Hs) : Item → Prop
  | .own v z xs => (v = .nil ∧ xs = []) ∨ ∃ h ys, v = .sl h 0 xs.length ∧ H h = .own z (xs ++ ys)
  | .box h cs => H h = .box cs
  | .imm v z xs => (v = .nil ∧ xs = []) ∨ ∃ h lo zs, v = .sl h lo (lo + xs.length) ∧ H h = .imm z zs ∧ lo + xs.length ≤ zs.length ∧ win zs lo (lo + xs.length) = xs

/-- what a walk knows of the homes: the pieces apart, all of them below the next number -/
structure HP (H : Hs) (n : Nat) (l : List Item) : Prop where
  nd : (l.flatMap Item.live).Nodup
  ok : ∀ it ∈ l, it.ok H
  lt : ∀ it ∈ l, ∀ i ∈ it.ids, i < n

section
variable {H : Hs} {n : Nat} {l : List Item}

theorem HP.nil (H : Hs) (n : Nat) : HP H n [] := ⟨by simp, by simp, by simp⟩

theorem HP.tail {a : Item} (h : HP H n (a :: l)) : HP H n l :=
  ⟨by have := h.nd; rw [List.flatMap_cons, List.nodup_append] at this; exact this.2.1, fun it hi => h.ok it (List.mem_cons_of_mem _ hi), fun it hi => h.lt it (List.mem_cons_of_mem _ hi)⟩

theorem HP.perm {l' : List Item} (h : HP H n l) (hp : l.Perm l') : HP H n l' :=
  ⟨(hp.flatMap_right Item.live).nodup_iff.1 h.nd, fun it hi => h.ok it (hp.mem_iff.2 hi), fun it hi => h.lt it (hp.mem_iff.2 hi)⟩

theorem mem_live_ids (it : Item) : ∀ i ∈ it.live, i ∈ it.ids := by cases it <;> simp [Item.live, Item.ids]

/-- an item stays where no home of its own is written -/
theorem Item.ok_upd {it : Item} {h : Nat} {X : Home} (ho : it.ok H) (hn : h ∉ it.ids) : it.ok (upd H h X) := by
  cases it with
  | own v z xs =>
    rcases ho with h1 | ⟨k, ys, rfl, h2⟩
    · exact .inl h1
    · refine .inr ⟨k, ys, rfl, ?_⟩
      have : k ≠ h := by simpa [Item.ids, idOf, eq_comm] using hn
      simp [upd, this, h2]
  | box k cs =>
    have : k ≠ h := by simpa [Item.ids, eq_comm] using hn
    simpa [Item.ok, upd, this] using ho
  | imm v z xs =>
    rcases ho with h1 | ⟨k, lo, zs, rfl, h2, h3⟩
    · exact .inl h1
    · refine .inr ⟨k, lo, zs, rfl, ?_, h3⟩
      have : k ≠ h := by simpa [Item.ids, idOf, eq_comm] using hn
      simp [upd, this, h2]

/-- the home of a live item is none of a fixed one -/
theorem HP.apart {a : Item} (h : HP H n (a :: l)) {i : Nat} (hi : i ∈ a.live) : ∀ it ∈ l, i ∉ it.ids := by
  intro it hit hm
  cases it with
  | own v z xs =>
    have := h.nd
    rw [List.flatMap_cons, List.nodup_append] at this
    exact this.2.2 i hi i (List.mem_flatMap.2 ⟨_, hit, hm⟩) rfl
  | box k cs =>
    have := h.nd
    rw [List.flatMap_cons, List.nodup_append] at this
    exact this.2.2 i hi i (List.mem_flatMap.2 ⟨_, hit, hm⟩) rfl
  | imm v z xs =>
    rcases h.ok _ (List.mem_cons_of_mem _ hit) with ⟨rfl, _⟩ | ⟨k, lo, zs, rfl, h2, _⟩
    · simp [Item.ids, idOf] at hm
    · simp only [Item.ids, idOf, List.mem_singleton] at hm
      subst hm
      have ha := h.ok a List.mem_cons_self
      cases a with
      | own v z xs =>
        rcases ha with ⟨rfl, _⟩ | ⟨k, ys, rfl, h3⟩
        · simp [Item.live, idOf] at hi
        · simp only [Item.live, idOf, List.mem_singleton] at hi
          subst hi
          rw [h3] at h2; cases h2
      | box k cs =>
        simp only [Item.live, List.mem_singleton] at hi
        subst hi
        simp only [Item.ok] at ha
        rw [ha] at h2; cases h2
      | imm v z xs => simp [Item.live] at hi

/-- the first item's home is written -/
theorem HP.write {a b : Item} {h : Nat} {X : Home} (hH : HP H n (a :: l)) (ha : h ∈ a.live) (hb : b.ids = [h]) (hok : b.ok (upd H h X)) : HP (upd H h X) n (b :: l) := by
  have hap := hH.apart ha
  refine ⟨?_, ?_, ?_⟩
  · rw [List.flatMap_cons, List.nodup_append]
    refine ⟨?_, hH.tail.nd, ?_⟩
    · cases b <;> simp_all [Item.live, Item.ids]
    · intro i hi j hj e
      subst e
      have := mem_live_ids b i hi
      rw [hb] at this
      simp only [List.mem_singleton] at this
      subst this
      obtain ⟨it, h1, h2⟩ := List.mem_flatMap.1 hj
      exact hap it h1 (mem_live_ids _ _ h2)
  · intro it hit
    rcases List.mem_cons.1 hit with rfl | hit
    · exact hok
    · exact Item.ok_upd (hH.ok it (List.mem_cons_of_mem _ hit)) (hap it hit)
  · intro it hit i hi
    rcases List.mem_cons.1 hit with rfl | hit
    · rw [hb] at hi
      simp only [List.mem_singleton] at hi
      subst hi
      exact hH.lt a List.mem_cons_self _ (mem_live_ids _ _ ha)
    · exact hH.lt it (List.mem_cons_of_mem _ hit) i hi

/-- a new home -/
theorem HP.new {b : Item} {X : Home} (hH : HP H n l) (hb : b.ids = [n]) (hok : b.ok (upd H n X)) : HP (upd H n X) (n + 1) (b :: l) := by
  have hap : ∀ it ∈ l, n ∉ it.ids := fun it hit hm => absurd (hH.lt it hit n hm) (Nat.lt_irrefl n)
  refine ⟨?_, ?_, ?_⟩
  · rw [List.flatMap_cons, List.nodup_append]
    refine ⟨?_, hH.nd, ?_⟩
    · cases b <;> simp_all [Item.live, Item.ids]
    · intro i hi j hj e
      subst e
      have := mem_live_ids b i hi
      rw [hb] at this
      simp only [List.mem_singleton] at this
      subst this
      obtain ⟨it, h1, h2⟩ := List.mem_flatMap.1 hj
      exact hap it h1 (mem_live_ids _ _ h2)
  · intro it hit
    rcases List.mem_cons.1 hit with rfl | hit
    · exact hok
    · exact Item.ok_upd (hH.ok it hit) (hap it hit)
  · intro it hit i hi
    rcases List.mem_cons.1 hit with rfl | hit
    · rw [hb] at hi
      simp only [List.mem_singleton] at hi
      omega
    · exact Nat.lt_succ_of_lt (hH.lt it hit i hi)

theorem HP.mono {n' : Nat} (h : HP H n l) (hn : n ≤ n') : HP H n' l := ⟨h.nd, h.ok, fun it hi i hm => Nat.lt_of_lt_of_le (h.lt it hi i hm) hn⟩

/-- a home of no item is written -/
theorem HP.other {a : Item} {h : Nat} {X : Home} (hH : HP H n (a :: l)) (ha : h ∈ a.live) : HP (upd H h X) n l :=
  ⟨hH.tail.nd, fun it hit => Item.ok_upd (hH.ok it (List.mem_cons_of_mem _ hit)) (hH.apart ha it hit), hH.tail.lt⟩

theorem pick_perm {α : Type} : ∀ (l : List α) (i : Nat) (a : α), l[i]? = some a → l.Perm (a :: l.eraseIdx i) := by
  intro l
  induction l with
  | nil => intro i a h; simp at h
  | cons x xs ih =>
    intro i a h
    cases i with
    | zero => simp only [List.getElem?_cons_zero, Option.some.injEq] at h; subst h; exact List.Perm.refl _
    | succ i =>
      simp only [List.getElem?_cons_succ] at h
      simp only [List.eraseIdx_cons_succ]
      exact ((ih i a h).cons x).trans (List.Perm.swap a x _)

theorem HP.pick (h : HP H n l) (i : Nat) {a : Item} (hi : l[i]? = some a) : HP H n (a :: l.eraseIdx i) := h.perm (pick_perm l i a hi)

theorem HP.get (h : HP H n l) {i : Nat} {a : Item} (hi : l[i]? = some a) : a.ok H := h.ok a (List.mem_of_getElem? hi)

end
end Go.Jv
