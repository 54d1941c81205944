/- Walks of the abstract machine beside a plain function: what the plain function answers, the machine's run ends in. -/
import Derived.Test.YtdcpfmjnkcodiaaDoorA7
namespace Go.Jv
def bodyOf (F : Func) : Code := F.body.getD .skip
inductive Way where
 | o
 | a (p : Way)
 | b (p : Way)
def kid0 : Code → Code
 | .seq a _ => a
 | .cond _ a _ => a
 | .block _ a => a
 | .loop a => a
 | _ => .skip
def kid1 : Code → Code
 | .seq _ b => b
 | .cond _ _ b => b
 | _ => .skip
def sub (c : Code) : Way → Code
 | .o => c
 | .a p => kid0 (sub c p)
 | .b p => kid1 (sub c p)
def beh (C : Cfg) (c : Code) (Q : Ex → St → Prop) : Ex → St → Prop :=
 match c with
 | .seq _ b => Nx (fun s' => EC C b s' Q) Q
 | .block id _ => Blk id Q
 | .loop a => Nx (fun s' => EC C (.loop a) s' Q) Q
 | _ => Q
def con (C : Cfg) (c : Code) (Q : Ex → St → Prop) : Way → Ex → St → Prop
 | .o => Q
 | .a p => beh C (sub c p) (con C c Q p)
 | .b p => con C c Q p
def PAt (C : Cfg) (c : Code) (p : Way) (s : St) (Q : Ex → St → Prop) : Prop := EC C (sub c p) s (con C c Q p)
section
variable {C : Cfg} {c a b : Code} {p : Way} {s : St} {Q : Ex → St → Prop} {x : Operand} {i : Nat} {ex : Ex}
theorem PAt_nil (C : Cfg) (c : Code) (s : St) (Q : Ex → St → Prop) : PAt C c .o s Q = EC C c s Q := rfl
theorem Ps (k : PAt C c p.a s Q) (h : sub c p = .seq a b := by rfl) : PAt C c p s Q := by
 simp only [PAt, sub, con, h, beh, kid0] at k ⊢
 exact e_seq k
theorem Pb (k : PAt C c p.a s Q) (h : sub c p = .block i a := by rfl) : PAt C c p s Q := by
 simp only [PAt, sub, con, h, beh, kid0] at k ⊢
 exact e_block k
theorem Po (k : PAt C c p.a s Q) (h : sub c p = .loop a := by rfl) : PAt C c p s Q := by
 simp only [PAt, sub, con, h, beh, kid0] at k ⊢
 exact e_loop k
theorem Ct (k : PAt C c p.a s Q) (h : sub c p = .cond x a b := by rfl) (hx : ev C s x = .d (.bool true) := by rfl) : PAt C c p s Q := by
 simp only [PAt, sub, con, h, beh, kid0] at k ⊢
 exact e_cond_t hx k
theorem Cf (k : PAt C c p.b s Q) (h : sub c p = .cond x a b := by rfl) (hx : ev C s x = .d (.bool false) := by rfl) : PAt C c p s Q := by
 simp only [PAt, sub, con, h, kid1] at k ⊢
 exact e_cond_f hx k
theorem p_condB {ρ : Type} {r : ρ} {A B : Option ρ} {v : Bool} (h : sub c p = .cond x a b) (hm : (if v = true then A else B) = some r) (hx : ev C s x = .d (.bool v)) (ht : v = true → A = some r → PAt C c p.a s Q) (hf : v = false → B = some r → PAt C c p.b s Q) : PAt C c p s Q := by
 cases v
 ·exact Cf (hf rfl (by simpa using hm)) h hx
 ·exact Ct (ht rfl (by simpa using hm)) h hx
theorem Pk (k : con C c Q p .normal s) (h : sub c p = .skip := by rfl) : PAt C c p s Q := by
 simp only [PAt, h]; exact e_skip k
theorem Pt (k : con C c Q p .ret s) (h : sub c p = .ret := by rfl) : PAt C c p s Q := by
 simp only [PAt, h]; exact e_ret k
theorem Px (h : sub c p = .exit i) (k : con C c Q p (.exit i) s) : PAt C c p s Q := by
 simp only [PAt, h]; exact e_exit k
theorem Cr : ∀ {p : Way}, Q .ret s → con C c Q p .ret s := by
 intro p
 induction p with
 | o => exact id
 | a p ih =>
  intro h
  simp only [con]
  generalize sub c p = d
  cases d <;> exact ih h
 | b p ih => exact ih
theorem Ns (k : PAt C c p.b s Q) (h : sub c p = .seq a b := by rfl) : con C c Q p.a .normal s := by
 simp only [PAt, sub, con, h, beh, kid1] at k ⊢; exact k
theorem Nl (k : PAt C c p s Q) (h : sub c p = .loop a := by rfl) : con C c Q p.a .normal s := by
 simp only [PAt, con, h, beh] at k ⊢; exact k
theorem Nk (k : con C c Q p .normal s) (h : sub c p = .block i a := by rfl) : con C c Q p.a .normal s := by
 simp only [con, h, beh]; exact k
theorem Nb (k : con C c Q p ex s) : con C c Q p.b ex s := k
theorem Nc (k : con C c Q p ex s) (h : sub c p = .cond x a b := by rfl) : con C c Q p.a ex s := by
 simp only [con, h, beh]; exact k
theorem Xs (k : con C c Q p (.exit i) s) (h : sub c p = .seq a b := by rfl) : con C c Q p.a (.exit i) s := by
 simp only [con, h, beh]; exact k
theorem Xl (k : con C c Q p (.exit i) s) (h : sub c p = .loop a := by rfl) : con C c Q p.a (.exit i) s := by
 simp only [con, h, beh]; exact k
theorem Xb (k : con C c Q p .normal s) (h : sub c p = .block i a := by rfl) : con C c Q p.a (.exit i) s := by
 simp only [con, h, beh]; exact blk_e k
theorem x_out {j : Nat} (h : sub c p = .block j a) (hn : i ≠ j) (k : con C c Q p (.exit i) s) : con C c Q p.a (.exit i) s := by
 simp only [con, h, beh]; exact blk_o hn k
end
def PostD (C : Cfg) (F : Func) (rs : List Dat) : Ex → St → Prop := fun ex s => (∀ i, ex ≠ .exit i) ∧ ∃ vs H', resultsA C s F.results.toList = some vs ∧ frzAll s.homes vs = some (rs, H')
def ini (vs : List AV) : Nat → AV := fun i => if i < vs.length then vs.getD i default else .undef
theorem callD_at {C : Cfg} {f : FuncId} {xs rs : List Dat} {F : Func} (hx : C.ext f xs = none) (hf : C.fn f = some F) (hb : F.body.isSome = true)
  (h : PAt C (bodyOf F) .o { regs := ini (xs.map .d), homes := fun _ => .dead, next := 0 } (PostD C F rs)) : callD C f xs = some rs := by
 obtain ⟨code, hc⟩ := Option.isSome_iff_exists.1 hb
 have e : bodyOf F = code := by simp [bodyOf, hc]
 refine callD_of hx hf hc ?_
 have hi : (fun i => if i < xs.length then AV.d (xs.getD i default) else AV.undef) = ini (xs.map .d) := by
  funext i
  simp only [ini, List.length_map]
  split
  ·rename_i hlt
   simp [hlt]
  ·rfl
 rw [hi]
 rw [e, PAt_nil] at h
 refine Ends.mono h ?_
 rintro ⟨ex, s⟩ ⟨h1, vs, H', h2, h3⟩
 exact ⟨h1, vs, rs, H', h2, h3, rfl⟩
theorem callR_at {C : Cfg} {f : FuncId} {vs : List AV} {F : Func} {H : Hs} {n : Nat} {Q : List AV → Hs → Nat → Prop} (hf : C.fn f = some F) (hb : F.body.isSome = true)
  (h : PAt C (bodyOf F) .o { regs := ini vs, homes := H, next := n } fun ex s => (∀ i, ex ≠ .exit i) ∧ ∃ rs, resultsA C s F.results.toList = some rs ∧ Q rs s.homes s.next) :
  ∃ rs H1 n1, callR C f vs H n = some (rs, H1, n1) ∧ Q rs H1 n1 := by
 obtain ⟨code, hc⟩ := Option.isSome_iff_exists.1 hb
 have e : bodyOf F = code := by simp [bodyOf, hc]
 rw [e, PAt_nil] at h
 obtain ⟨⟨ex, s⟩, h1, h2, rs, h3, h4⟩ := h
 exact ⟨rs, s.homes, s.next, callR_of hf hc ⟨(ex, s), h1, h2, h3, rfl, rfl⟩, h4⟩
inductive Item where
  | own (v : AV) (z : Row) (xs : List Dat)
 | box (h : Nat) (cs : List AV)
  | imm (v : AV) (z : Row) (xs : List Dat)
 | mp (h : Nat) (es : List (Dat × Dat))
def Item.live : Item → List Nat
 | .own v _ _ => idOf v
 | .box h _ => [h]
 | .imm _ _ _ => []
 | .mp h _ => [h]
def Item.ids : Item → List Nat
 | .own v _ _ => idOf v
 | .box h _ => [h]
 | .imm v _ _ => idOf v
 | .mp h _ => [h]
def Item.ok (H : Hs) : Item → Prop
 | .own v z xs => (v = .nil ∧ xs = []) ∨ ∃ h ys, v = .sl h 0 xs.length ∧ H h = .own z (xs ++ ys)
 | .box h cs => H h = .box cs
 | .mp h es => H h = .map es
 | .imm v z xs => (v = .nil ∧ xs = []) ∨ ∃ h lo zs, v = .sl h lo (lo + xs.length) ∧ H h = .imm z zs ∧ lo + xs.length ≤ zs.length ∧ win zs lo (lo + xs.length) = xs
structure HP (H : Hs) (n : Nat) (l : List Item) : Prop where
 nd : (l.flatMap Item.live).Nodup
 ok : ∀ it ∈ l, it.ok H
 lt : ∀ it ∈ l, ∀ i ∈ it.ids, i < n
section
variable {H : Hs} {n : Nat} {l : List Item}
theorem HP.nil (H : Hs) (n : Nat) : HP H n [] := ⟨by simp, by simp, by simp⟩
theorem HP.tail {a : Item} (h : HP H n (a :: l)) : HP H n l :=
 ⟨by have := h.nd; rw [List.flatMap_cons, List.nodup_append] at this; exact this.2.1, fun it hi => h.ok it (List.mem_cons_of_mem _ hi), fun it hi => h.lt it (List.mem_cons_of_mem _ hi)⟩
theorem HP.perm {l' : List Item} (h : HP H n l) (hp : l.Perm l') : HP H n l' :=
 ⟨(hp.flatMap_right Item.live).nodup_iff.1 h.nd, fun it hi => h.ok it (hp.mem_iff.2 hi), fun it hi => h.lt it (hp.mem_iff.2 hi)⟩
theorem mem_live_ids (it : Item) : ∀ i ∈ it.live, i ∈ it.ids := by cases it <;> simp [Item.live, Item.ids]
theorem Item.ok_upd {it : Item} {h : Nat} {X : Home} (ho : it.ok H) (hn : h ∉ it.ids) : it.ok (upd H h X) := by
 cases it with
 | own v z xs =>
  rcases ho with h1 | ⟨k, ys, rfl, h2⟩
  ·exact .inl h1
  ·refine .inr ⟨k, ys, rfl, ?_⟩
   have : k ≠ h := by simpa [Item.ids, idOf, eq_comm] using hn
   simp [upd, this, h2]
 | box k cs =>
  have : k ≠ h := by simpa [Item.ids, eq_comm] using hn
  simpa [Item.ok, upd, this] using ho
 | mp k es =>
  have : k ≠ h := by simpa [Item.ids, eq_comm] using hn
  simpa [Item.ok, upd, this] using ho
 | imm v z xs =>
  rcases ho with h1 | ⟨k, lo, zs, rfl, h2, h3⟩
  ·exact .inl h1
  ·refine .inr ⟨k, lo, zs, rfl, ?_, h3⟩
   have : k ≠ h := by simpa [Item.ids, idOf, eq_comm] using hn
   simp [upd, this, h2]
theorem HP.apart {a : Item} (h : HP H n (a :: l)) {i : Nat} (hi : i ∈ a.live) : ∀ it ∈ l, i ∉ it.ids := by
 intro it hit hm
 cases it with
 | own v z xs =>
  have := h.nd
  rw [List.flatMap_cons, List.nodup_append] at this
  exact this.2.2 i hi i (List.mem_flatMap.2 ⟨_, hit, hm⟩) rfl
 | box k cs =>
  have := h.nd
  rw [List.flatMap_cons, List.nodup_append] at this
  exact this.2.2 i hi i (List.mem_flatMap.2 ⟨_, hit, hm⟩) rfl
 | mp k es =>
  have := h.nd
  rw [List.flatMap_cons, List.nodup_append] at this
  exact this.2.2 i hi i (List.mem_flatMap.2 ⟨_, hit, hm⟩) rfl
 | imm v z xs =>
  rcases h.ok _ (List.mem_cons_of_mem _ hit) with ⟨rfl, _⟩ | ⟨k, lo, zs, rfl, h2, _⟩
  ·simp [Item.ids, idOf] at hm
  ·simp only [Item.ids, idOf, List.mem_singleton] at hm
   subst hm
   have ha := h.ok a List.mem_cons_self
   cases a with
   | own v z xs =>
    rcases ha with ⟨rfl, _⟩ | ⟨k, ys, rfl, h3⟩
    ·simp [Item.live, idOf] at hi
    ·simp only [Item.live, idOf, List.mem_singleton] at hi
     subst hi
     rw [h3] at h2; cases h2
   | box k cs =>
    simp only [Item.live, List.mem_singleton] at hi
    subst hi
    simp only [Item.ok] at ha
    rw [ha] at h2; cases h2
   | mp b es =>
    simp only [Item.live, List.mem_singleton] at hi
    subst hi
    simp only [Item.ok] at ha
    rw [ha] at h2; cases h2
   | imm v z xs => simp [Item.live] at hi
theorem HP.write {a b : Item} {h : Nat} {X : Home} (hH : HP H n (a :: l)) (ha : h ∈ a.live) (hb : b.ids = [h]) (hok : b.ok (upd H h X)) : HP (upd H h X) n (b :: l) := by
 have hap := hH.apart ha
 refine ⟨?_, ?_, ?_⟩
 ·rw [List.flatMap_cons, List.nodup_append]
  refine ⟨?_, hH.tail.nd, ?_⟩
  ·cases b <;> simp_all [Item.live, Item.ids]
  ·intro i hi j hj e
   subst e
   have := mem_live_ids b i hi
   rw [hb] at this
   simp only [List.mem_singleton] at this
   subst this
   obtain ⟨it, h1, h2⟩ := List.mem_flatMap.1 hj
   exact hap it h1 (mem_live_ids _ _ h2)
 ·intro it hit
  rcases List.mem_cons.1 hit with rfl | hit
  ·exact hok
  ·exact Item.ok_upd (hH.ok it (List.mem_cons_of_mem _ hit)) (hap it hit)
 ·intro it hit i hi
  rcases List.mem_cons.1 hit with rfl | hit
  ·rw [hb] at hi
   simp only [List.mem_singleton] at hi
   subst hi
   exact hH.lt a List.mem_cons_self _ (mem_live_ids _ _ ha)
  ·exact hH.lt it (List.mem_cons_of_mem _ hit) i hi
theorem HP.new {b : Item} {X : Home} (hH : HP H n l) (hb : b.ids = [n]) (hok : b.ok (upd H n X)) : HP (upd H n X) (n + 1) (b :: l) := by
 have hap : ∀ it ∈ l, n ∉ it.ids := fun it hit hm => absurd (hH.lt it hit n hm) (Nat.lt_irrefl n)
 refine ⟨?_, ?_, ?_⟩
 ·rw [List.flatMap_cons, List.nodup_append]
  refine ⟨?_, hH.nd, ?_⟩
  ·cases b <;> simp_all [Item.live, Item.ids]
  ·intro i hi j hj e
   subst e
   have := mem_live_ids b i hi
   rw [hb] at this
   simp only [List.mem_singleton] at this
   subst this
   obtain ⟨it, h1, h2⟩ := List.mem_flatMap.1 hj
   exact hap it h1 (mem_live_ids _ _ h2)
 ·intro it hit
  rcases List.mem_cons.1 hit with rfl | hit
  ·exact hok
  ·exact Item.ok_upd (hH.ok it hit) (hap it hit)
 ·intro it hit i hi
  rcases List.mem_cons.1 hit with rfl | hit
  ·rw [hb] at hi
   simp only [List.mem_singleton] at hi
   omega
  ·exact Nat.lt_succ_of_lt (hH.lt it hit i hi)
theorem HP.other {a : Item} {h : Nat} {X : Home} (hH : HP H n (a :: l)) (ha : h ∈ a.live) : HP (upd H h X) n l :=
 ⟨hH.tail.nd, fun it hit => Item.ok_upd (hH.ok it (List.mem_cons_of_mem _ hit)) (hH.apart ha it hit), hH.tail.lt⟩
theorem pick_perm {α : Type} : ∀ (l : List α) (i : Nat) (a : α), l[i]? = some a → l.Perm (a :: l.eraseIdx i) := by
 intro l
 induction l with
 | nil => intro i a h; simp at h
 | cons x xs ih =>
  intro i a h
  cases i with
  | zero => simp only [List.getElem?_cons_zero, Option.some.injEq] at h; subst h; exact List.Perm.refl _
  | succ i =>
   simp only [List.getElem?_cons_succ] at h
   simp only [List.eraseIdx_cons_succ]
   exact ((ih i a h).cons x).trans (List.Perm.swap a x _)
theorem HP.pick (h : HP H n l) (i : Nat) {a : Item} (hi : l[i]? = some a) : HP H n (a :: l.eraseIdx i) := h.perm (pick_perm l i a hi)
theorem HP.get (h : HP H n l) {i : Nat} {a : Item} (hi : l[i]? = some a) : a.ok H := h.ok a (List.mem_of_getElem? hi)
end
end Go.Jv
namespace Go.Jv
def EW (q : Bool) (C : Cfg) (ops : Array Oper) (l : List Oper) (s : St) (R : St → Prop) : Prop :=
 match q with
 | false => EO C ops l s R
 | true => ∃ fs s', runFts C ops l s = some (fs, s') ∧ (∀ f ∈ fs, f.md = noFt.md) ∧ R s' ∧ runOps C ops l s = some s'
section
variable {C : Cfg} {s : St} {gs : Nat → AV} {hom : Hs} {nx : Nat} {q : Bool} {ops : Array Oper} {rest : List Oper} {R : St → Prop} {Q : Ex → St → Prop}
theorem Wn (h : R s) : EW q C ops [] s R := by
 cases q
 ·exact e_nil h
 ·exact ⟨[], s, by rw [runFts], by simp, h, by rw [runOps]⟩
def isCallV : Op → Bool
 | .call c => (match c.callee with | .value _ => true | _ => false)
 | _ => false
theorem opF_nc {e : Operand → AV} {o : Op} {H : Hs} {n : Nat} (h : isCallV o = false) : opF C e o H n = opV C e o H n := by
 have hno : ∀ fv args ts, o = .call ⟨.value fv, args, ts⟩ → False := by
  rintro fv args ts rfl
  simp [isCallV] at h
 rw [opF, opV] <;> exact hno
theorem opF_nr {e : Operand → AV} {fv : Operand} {args : Array Operand} {ts : Array TypeId} {H : Hs} {n : Nat} {f : FuncId} {caps : List AV} (h : fnOf (e fv) = some (f, caps)) (hs : C.sig f ≠ .raw) :
  opF C e (.call ⟨.value fv, args, ts⟩) H n = opV C e (.call ⟨.value fv, args, ts⟩) H n := by
 rw [opF, opV]
 simp only [h]
 split
 ·rename_i h1; exact absurd h1 hs
 ·rfl
 ·rfl
theorem w_opF {o : Oper} {v : AV} {H1 : Hs} {n1 : Nat} (hw : wantedA ops gs o = some true) (ho : opV C (ev C ⟨gs, hom, nx⟩) o.op hom nx = some (v, H1, n1)) (hn : q = true → opF C (ev C ⟨gs, hom, nx⟩) o.op hom nx = opV C (ev C ⟨gs, hom, nx⟩) o.op hom nx)
  (hf : q = true → (footA C hom nx n1 (ev C ⟨gs, hom, nx⟩) o.op).md = noFt.md) (h : EW q C ops rest ⟨putR gs o.dst v, H1, n1⟩ R) : EW q C ops (o :: rest) ⟨gs, hom, nx⟩ R := by
 cases q
 ·obtain ⟨s', h1, h2⟩ := h
  exact ⟨s', by rw [runOps_cons, hw]; simp only [ho]; exact h1, h2⟩
 ·obtain ⟨fs, s', h1, h2, h3, h4⟩ := h
  refine ⟨footA C hom nx n1 (ev C ⟨gs, hom, nx⟩) o.op :: fs, s', ?_, ?_, h3, by rw [runOps_cons, hw]; simp only [ho]; exact h4⟩
  ·rw [runFts, hw]; simp only [hn rfl, ho]; simp [h1]
  ·intro f hm
   rcases List.mem_cons.1 hm with rfl | hm
   ·exact hf rfl
   ·exact h2 f hm
theorem w_op {o : Oper} {v : AV} {H1 : Hs} {n1 : Nat} (hw : wantedA ops gs o = some true) (ho : opV C (ev C ⟨gs, hom, nx⟩) o.op hom nx = some (v, H1, n1))
  (hf : q = true → (footA C hom nx n1 (ev C ⟨gs, hom, nx⟩) o.op).md = noFt.md ∧ isCallV o.op = false) (h : EW q C ops rest ⟨putR gs o.dst v, H1, n1⟩ R) : EW q C ops (o :: rest) ⟨gs, hom, nx⟩ R :=
 w_opF hw ho (fun hq => opF_nc (hf hq).2) (fun hq => (hf hq).1) h
theorem Wk {o : Oper} (h : EW q C ops rest ⟨putR gs o.dst .undef, hom, nx⟩ R) (hw : wantedA ops gs o = some false := by rfl) : EW q C ops (o :: rest) ⟨gs, hom, nx⟩ R := by
 cases q
 ·obtain ⟨s', h1, h2⟩ := h
  exact ⟨s', by rw [runOps_cons, hw]; exact h1, h2⟩
 ·obtain ⟨fs, s', h1, h2, h3, h4⟩ := h
  refine ⟨noFt :: fs, s', ?_, ?_, h3, by rw [runOps_cons, hw]; exact h4⟩
  ·rw [runFts, hw]; simp [h1]
  ·intro f hm
   rcases List.mem_cons.1 hm with rfl | hm
   ·rfl
   ·exact h2 f hm
theorem w_region {i : Nat} (h : EW false C ops ops.toList s (fun s' => Q .normal s')) : EC C (.region i ops false) s Q := e_region h
theorem pairsOk_calm {fs : List Ft} (h : ∀ f ∈ fs, f.md = noFt.md) (ps : List (Nat × Nat)) : pairsOk fs ps := by
 rintro p _ f g hf hg ⟨i, hc⟩
 have a := h _ (List.mem_of_getElem? hf)
 have b := h _ (List.mem_of_getElem? hg)
 simp [a, b, noFt, Ft.of] at hc
theorem w_calm {i : Nat} (hd : drawStat ops = true) (h : EW true C ops ops.toList s (fun s' => Q .normal s')) : EC C (.region i ops true) s Q := by
 obtain ⟨fs, s', h1, h2, h3, h4⟩ := h
 by_cases hu : (unord ops.toList).isEmpty = true
 ·exact e_draw hd hu ⟨s', h4, h3⟩
 ·refine ⟨(.normal, s'), ?_, h3⟩
  rw [runC]
  simp only [hd, if_true, if_neg hu, h1]
  show (guardP (pairsOk fs (unord ops.toList))).bind (fun _ => some (Ex.normal, s')) = _
  rw [guardP_t (pairsOk_calm h2 _)]; rfl
theorem Pr {c : Code} {p : Way} {i : Nat} (hc : sub c p = .region i ops false) (h : EW false C ops ops.toList s (fun s' => con C c Q p .normal s')) : PAt C c p s Q := by
 simp only [PAt, hc]; exact w_region h
theorem p_calm {c : Code} {p : Way} {i : Nat} (hc : sub c p = .region i ops true) (hd : drawStat ops = true) (h : EW true C ops ops.toList s (fun s' => con C c Q p .normal s')) : PAt C c p s Q := by
 simp only [PAt, hc]; exact w_calm hd h
variable {dst : Option Tmp} {ty : TypeId} {ps : String} {af : Array Edge} {g : Option (Nat × Bool)} {t u : TypeId} {x y z : Operand} {v : AV}
theorem Wm {d : Dat} (hx : ev C ⟨gs, hom, nx⟩ x = .d d) (h : EW q C ops rest ⟨putR gs dst (.d d), hom, nx⟩ R) (hw : wantedA ops gs ⟨dst, .move x, ty, ps, af, g⟩ = some true := by rfl) : EW q C ops (⟨dst, .move x, ty, ps, af, g⟩ :: rest) ⟨gs, hom, nx⟩ R :=
 w_op hw (hx ▸ o_move) (fun _ => ⟨rfl, rfl⟩) h
theorem Wa {d : Dat} (hx : ev C ⟨gs, hom, nx⟩ x = .d d) (h : EW q C ops rest ⟨putR gs dst (.d d), hom, nx⟩ R) (hw : wantedA ops gs ⟨dst, .assign x, ty, ps, af, g⟩ = some true := by rfl) : EW q C ops (⟨dst, .assign x, ty, ps, af, g⟩ :: rest) ⟨gs, hom, nx⟩ R :=
 w_op hw (hx ▸ o_assign) (fun _ => ⟨rfl, rfl⟩) h
theorem w_move_v (v : AV) (hw : wantedA ops gs ⟨dst, .move x, ty, ps, af, g⟩ = some true) (hx : ev C ⟨gs, hom, nx⟩ x = v) (h : EW q C ops rest ⟨putR gs dst v, hom, nx⟩ R) : EW q C ops (⟨dst, .move x, ty, ps, af, g⟩ :: rest) ⟨gs, hom, nx⟩ R :=
 w_op hw (hx ▸ o_move) (fun _ => ⟨rfl, rfl⟩) h
theorem w_assign_v (v : AV) (hw : wantedA ops gs ⟨dst, .assign x, ty, ps, af, g⟩ = some true) (hx : ev C ⟨gs, hom, nx⟩ x = v) (h : EW q C ops rest ⟨putR gs dst v, hom, nx⟩ R) : EW q C ops (⟨dst, .assign x, ty, ps, af, g⟩ :: rest) ⟨gs, hom, nx⟩ R :=
 w_op hw (hx ▸ o_assign) (fun _ => ⟨rfl, rfl⟩) h
theorem Wt {d : Dat} (hc : ev C ⟨gs, hom, nx⟩ x = .d (.bool true)) (hx : ev C ⟨gs, hom, nx⟩ y = .d d) (h : EW q C ops rest ⟨putR gs dst (.d d), hom, nx⟩ R) (hw : wantedA ops gs ⟨dst, .pick x y z, ty, ps, af, g⟩ = some true := by rfl) : EW q C ops (⟨dst, .pick x y z, ty, ps, af, g⟩ :: rest) ⟨gs, hom, nx⟩ R :=
 w_op hw (hx ▸ o_pick_t hc) (fun _ => ⟨rfl, rfl⟩) h
theorem Wf {d : Dat} (hc : ev C ⟨gs, hom, nx⟩ x = .d (.bool false)) (hx : ev C ⟨gs, hom, nx⟩ z = .d d) (h : EW q C ops rest ⟨putR gs dst (.d d), hom, nx⟩ R) (hw : wantedA ops gs ⟨dst, .pick x y z, ty, ps, af, g⟩ = some true := by rfl) : EW q C ops (⟨dst, .pick x y z, ty, ps, af, g⟩ :: rest) ⟨gs, hom, nx⟩ R :=
 w_op hw (hx ▸ o_pick_f hc) (fun _ => ⟨rfl, rfl⟩) h
theorem Wb {op : BinOp} {r : Dat} (hr : binA C op t (ev C ⟨gs, hom, nx⟩ x) (ev C ⟨gs, hom, nx⟩ y) = some r) (h : EW q C ops rest ⟨putR gs dst (.d r), hom, nx⟩ R) (hw : wantedA ops gs ⟨dst, .binOp op t x y u, ty, ps, af, g⟩ = some true := by rfl) : EW q C ops (⟨dst, .binOp op t x y u, ty, ps, af, g⟩ :: rest) ⟨gs, hom, nx⟩ R :=
 w_op hw (o_bin hr) (fun _ => ⟨rfl, rfl⟩) h
theorem Wc {ρ : Type} {A B : Option ρ} {r : ρ} {op : BinOp} {p : Prop} [Decidable p] (hm : (if p then A else B) = some r) (hr : binA C op t (ev C ⟨gs, hom, nx⟩ x) (ev C ⟨gs, hom, nx⟩ y) = some (.bool (decide p))) (ht : p → A = some r → EW q C ops rest ⟨putR gs dst (.d (.bool true)), hom, nx⟩ R) (hf : ¬ p → B = some r → EW q C ops rest ⟨putR gs dst (.d (.bool false)), hom, nx⟩ R) (hw : wantedA ops gs ⟨dst, .binOp op t x y u, ty, ps, af, g⟩ = some true := by rfl) :
  EW q C ops (⟨dst, .binOp op t x y u, ty, ps, af, g⟩ :: rest) ⟨gs, hom, nx⟩ R := by
 by_cases hp : p
 ·exact w_op hw (o_cmp hr (decide_eq_true hp)) (fun _ => ⟨rfl, rfl⟩) (ht hp (by rwa [if_pos hp] at hm))
 ·exact w_op hw (o_cmp hr (decide_eq_false hp)) (fun _ => ⟨rfl, rfl⟩) (hf hp (by rwa [if_neg hp] at hm))
theorem Wd {ρ : Type} {A B : Option ρ} {r : ρ} {op : BinOp} {p : Prop} [Decidable p] (hm : (if p then A else B) = some r) (hr : binA C op t (ev C ⟨gs, hom, nx⟩ x) (ev C ⟨gs, hom, nx⟩ y) = some (.bool (!decide p))) (ht : p → A = some r → EW q C ops rest ⟨putR gs dst (.d (.bool false)), hom, nx⟩ R) (hf : ¬ p → B = some r → EW q C ops rest ⟨putR gs dst (.d (.bool true)), hom, nx⟩ R) (hw : wantedA ops gs ⟨dst, .binOp op t x y u, ty, ps, af, g⟩ = some true := by rfl) :
  EW q C ops (⟨dst, .binOp op t x y u, ty, ps, af, g⟩ :: rest) ⟨gs, hom, nx⟩ R := by
 by_cases hp : p
 ·exact w_op hw (o_cmp hr (by simp [hp])) (fun _ => ⟨rfl, rfl⟩) (ht hp (by rwa [if_pos hp] at hm))
 ·exact w_op hw (o_cmp hr (by simp [hp])) (fun _ => ⟨rfl, rfl⟩) (hf hp (by rwa [if_neg hp] at hm))
theorem w_split {ρ : Type} {A B : Option ρ} {r : ρ} {o : Oper} {b : Bool} {v : AV} {H1 : Hs} {n1 : Nat} (hm : (if b = true then A else B) = some r) (hw : wantedA ops gs o = some true)
  (ho : opV C (ev C ⟨gs, hom, nx⟩) o.op hom nx = some (v, H1, n1)) (hv : v = .d (.bool b)) (hq : q = true → (footA C hom nx n1 (ev C ⟨gs, hom, nx⟩) o.op).md = noFt.md ∧ isCallV o.op = false)
  (ht : b = true → A = some r → EW q C ops rest ⟨putR gs o.dst (.d (.bool true)), H1, n1⟩ R) (hf : b = false → B = some r → EW q C ops rest ⟨putR gs o.dst (.d (.bool false)), H1, n1⟩ R) :
  EW q C ops (o :: rest) ⟨gs, hom, nx⟩ R := by
 cases b
 ·exact w_op hw (hv ▸ ho) hq (hf rfl (by simpa using hm))
 ·exact w_op hw (hv ▸ ho) hq (ht rfl (by simpa using hm))
theorem w_un {op : UnOp} {d r : Dat} (hx : ev C ⟨gs, hom, nx⟩ x = .d d) (hr : unD op d = some r) (h : EW q C ops rest ⟨putR gs dst (.d r), hom, nx⟩ R) (hw : wantedA ops gs ⟨dst, .unOp op t x, ty, ps, af, g⟩ = some true := by rfl) : EW q C ops (⟨dst, .unOp op t x, ty, ps, af, g⟩ :: rest) ⟨gs, hom, nx⟩ R :=
 w_op hw (o_un hx hr) (fun _ => ⟨rfl, rfl⟩) h
theorem w_conv (hw : wantedA ops gs ⟨dst, .convert t u x, ty, ps, af, g⟩ = some true) (hr : convA C t u (ev C ⟨gs, hom, nx⟩ x) = some v)
  (h : EW q C ops rest ⟨putR gs dst v, hom, nx⟩ R) : EW q C ops (⟨dst, .convert t u x, ty, ps, af, g⟩ :: rest) ⟨gs, hom, nx⟩ R :=
 w_op hw (o_conv hr) (fun _ => ⟨rfl, rfl⟩) h
theorem w_faddr {f off m : Nat} {a : Bool} (hw : wantedA ops gs ⟨dst, .fieldAddr t x f, ty, ps, af, g⟩ = some true) (hf : fo C t f = some (off, m, a)) (hm : m ≠ 0) (hr : addA (ev C ⟨gs, hom, nx⟩ x) off = some v)
  (h : EW q C ops rest ⟨putR gs dst v, hom, nx⟩ R) : EW q C ops (⟨dst, .fieldAddr t x f, ty, ps, af, g⟩ :: rest) ⟨gs, hom, nx⟩ R :=
 w_op hw (o_faddr hf hm hr) (fun _ => ⟨rfl, rfl⟩) h
theorem w_extract {i : Nat} {vs : List AV} (hw : wantedA ops gs ⟨dst, .extract x i, ty, ps, af, g⟩ = some true) (hx : ev C ⟨gs, hom, nx⟩ x = .tup vs) (hr : vs[i]? = some v)
  (h : EW q C ops rest ⟨putR gs dst v, hom, nx⟩ R) : EW q C ops (⟨dst, .extract x i, ty, ps, af, g⟩ :: rest) ⟨gs, hom, nx⟩ R :=
 w_op hw (o_extract hx hr) (fun _ => ⟨rfl, rfl⟩) h
theorem Wq {id o : Nat} (hx : ev C ⟨gs, hom, nx⟩ x = .pt id o) (h : EW q C ops rest ⟨putR gs dst (.pt id o), hom, nx⟩ R) (hw : wantedA ops gs ⟨dst, .nilCheck x, ty, ps, af, g⟩ = some true := by rfl) : EW q C ops (⟨dst, .nilCheck x, ty, ps, af, g⟩ :: rest) ⟨gs, hom, nx⟩ R :=
 w_op hw (o_ncheck_pt hx) (fun _ => ⟨rfl, rfl⟩) h
def szg (C : Cfg) (t : TypeId) : Option (Nat × Bool) := match sizeT C t, aggT C t with | some n, some g => some (n, g) | _, _ => none
theorem szg_parts {n : Nat} {a : Bool} (h : szg C t = some (n, a)) : sizeT C t = some n ∧ aggT C t = some a := by
 unfold szg at h
 split at h
 ·rename_i h1 h2; cases h; exact ⟨h1, h2⟩
 ·cases h
theorem w_load_d {m : Nat} {a : Bool} {cs : List Dat} {d : Dat} (hz : szg C t = some (m, a)) (hx : ev C ⟨gs, hom, nx⟩ x = .d (.ptr cs)) (hr : (cutD cs 0 m).bind (mkD a) = some d) (h : EW q C ops rest ⟨putR gs dst (.d d), hom, nx⟩ R) (hw : wantedA ops gs ⟨dst, .load t x, ty, ps, af, g⟩ = some true := by rfl) : EW q C ops (⟨dst, .load t x, ty, ps, af, g⟩ :: rest) ⟨gs, hom, nx⟩ R := by
 obtain ⟨h1, h2⟩ := szg_parts hz
 exact w_op hw (o_load (by simp [loadA, h1, h2, hx, hr])) (fun _ => ⟨rfl, rfl⟩) h
theorem w_load_b {l : List Item} {i id off m : Nat} {a : Bool} {cs : List AV} (hw : wantedA ops gs ⟨dst, .load t x, ty, ps, af, g⟩ = some true) (hz : szg C t = some (m, a)) (hH : HP hom nx l) (hi : l[i]? = some (.box id cs))
  (hx : ev C ⟨gs, hom, nx⟩ x = .pt id off) (hr : (cutA cs off m).bind (mkA a) = some v)
  (h : EW q C ops rest ⟨putR gs dst v, hom, nx⟩ R) : EW q C ops (⟨dst, .load t x, ty, ps, af, g⟩ :: rest) ⟨gs, hom, nx⟩ R := by
 obtain ⟨h1, h2⟩ := szg_parts hz
 have h3 : hom id = .box cs := hH.get hi
 exact w_op hw (o_load (by simp [loadA, h1, h2, hx, h3, hr])) (fun _ => ⟨rfl, rfl⟩) h
theorem w_alloc {l : List Item} {yt : Ty} (hw : wantedA ops gs ⟨dst, .alloc t, ty, ps, af, g⟩ = some true) (hy : C.ty t = some yt) (hH : HP hom nx l)
  (h : ∀ id H' n', HP H' n' (.box id yt.zero :: l) → EW false C ops rest ⟨putR gs dst (.pt id 0), H', n'⟩ R) : EW false C ops (⟨dst, .alloc t, ty, ps, af, g⟩ :: rest) ⟨gs, hom, nx⟩ R :=
 w_op hw (o_alloc hy) (by simp) (h _ _ _ (hH.new rfl (by simp [Item.ok, upd])))
theorem o_box {e : Operand → AV} {H : Hs} {n m : Nat} (hz : sizeT C t = some m) (hl : (e x).cells.length = m) (ha : (e x).cells.all okC = true) : opV C e (.box t x) H n = some (.pt n 0, upd H n (.box (e x).cells), n + 1) := by
 rw [opV_act (fun _ _ _ h => by cases h)]; simp only [act, hz, Option.bind_some]; rw [if_pos ⟨hl, ha⟩]
theorem w_box {l : List Item} {m : Nat} {a : Bool} {cs : List AV} (hw : wantedA ops gs ⟨dst, .box t x, ty, ps, af, g⟩ = some true) (hz : szg C t = some (m, a)) (hc : (ev C ⟨gs, hom, nx⟩ x).cells = cs) (hl : cs.length = m) (ha : cs.all okC = true) (hH : HP hom nx l)
  (h : ∀ id H' n', HP H' n' (.box id cs :: l) → EW false C ops rest ⟨putR gs dst (.pt id 0), H', n'⟩ R) : EW false C ops (⟨dst, .box t x, ty, ps, af, g⟩ :: rest) ⟨gs, hom, nx⟩ R := by
 subst hc
 exact w_op hw (o_box (szg_parts hz).1 hl ha) (by simp) (h _ _ _ (hH.new rfl (by simp [Item.ok, upd])))
theorem set_perm {α : Type} : ∀ (l : List α) (i : Nat) (a b : α), l[i]? = some a → (b :: l.eraseIdx i).Perm (l.set i b) := by
 intro l
 induction l with
 | nil => intro i a b h; simp at h
 | cons x xs ih =>
  intro i a b h
  cases i with
  | zero => exact List.Perm.refl _
  | succ i =>
   simp only [List.getElem?_cons_succ] at h
   simp only [List.eraseIdx_cons_succ, List.set_cons_succ]
   exact (List.Perm.swap x b _).trans ((ih i a b h).cons x)
theorem w_store_b {l : List Item} {i id off m : Nat} {a : Bool} {cs new : List AV} (hw : wantedA ops gs ⟨dst, .store t x y, ty, ps, af, g⟩ = some true) (hz : szg C t = some (m, a)) (hH : HP hom nx l) (hi : l[i]? = some (.box id cs))
  (hx : ev C ⟨gs, hom, nx⟩ x = .pt id off) (hc : (ev C ⟨gs, hom, nx⟩ y).cells = new) (hl : new.length = m) (ha : new.all okC = true) (ho : off + m ≤ cs.length)
  (h : ∀ H', HP H' nx (l.set i (.box id (putA cs off new))) → EW false C ops rest ⟨putR gs dst .undef, H', nx⟩ R) : EW false C ops (⟨dst, .store t x y, ty, ps, af, g⟩ :: rest) ⟨gs, hom, nx⟩ R := by
 subst hc
 obtain ⟨h1, h2⟩ := szg_parts hz
 have h3 : hom id = .box cs := hH.get hi
 have hp : HP (upd hom id (.box (putA cs off (ev C ⟨gs, hom, nx⟩ y).cells))) nx (l.set i (.box id (putA cs off (ev C ⟨gs, hom, nx⟩ y).cells))) :=
  ((hH.pick i hi).write (a := .box id cs) (by simp [Item.live]) rfl (by simp [Item.ok, upd])).perm (set_perm _ _ _ _ hi)
 refine w_op hw (o_store (H1 := upd hom id (.box (putA cs off (ev C ⟨gs, hom, nx⟩ y).cells))) ?_) (by simp) (h _ hp)
 simp only [storeA, h1, hx, h3]
 rw [if_pos ⟨hl, ha, ho⟩]
theorem w_store_bd {l : List Item} {i id off : Nat} {a : Bool} {cs : List AV} {d : Dat} (hw : wantedA ops gs ⟨dst, .store t x y, ty, ps, af, g⟩ = some true) (hz : szg C t = some (1, a)) (hH : HP hom nx l) (hi : l[i]? = some (.box id cs))
  (hx : ev C ⟨gs, hom, nx⟩ x = .pt id off) (hc : ev C ⟨gs, hom, nx⟩ y = .d d) (hd : d.cells = [d]) (ha : okC (.d d) = true) (ho : off + 1 ≤ cs.length)
  (h : ∀ H', HP H' nx (l.set i (.box id (cs.set off (.d d)))) → EW false C ops rest ⟨putR gs dst .undef, H', nx⟩ R) : EW false C ops (⟨dst, .store t x y, ty, ps, af, g⟩ :: rest) ⟨gs, hom, nx⟩ R := by
 refine w_store_b (new := [.d d]) hw hz hH hi hx (by rw [hc]; simp [AV.cells, hd]) rfl (by simpa using ha) ho (fun H' h' => h H' ?_)
 have : putA cs off [.d d] = cs.set off (.d d) := by
  simp only [putA, List.length_singleton]
  rw [List.set_eq_take_append_cons_drop, if_pos (by omega)]
  simp
 rwa [this] at h'
theorem w_store_b1 (v : AV) {l : List Item} {i id off : Nat} {a : Bool} {cs : List AV} (hw : wantedA ops gs ⟨dst, .store t x y, ty, ps, af, g⟩ = some true) (hz : szg C t = some (1, a)) (hH : HP hom nx l) (hi : l[i]? = some (.box id cs))
  (hx : ev C ⟨gs, hom, nx⟩ x = .pt id off) (hc : ev C ⟨gs, hom, nx⟩ y = v) (hd : v.cells = [v]) (ha : okC v = true) (ho : off + 1 ≤ cs.length)
  (h : ∀ H', HP H' nx (l.set i (.box id (cs.set off v))) → EW false C ops rest ⟨putR gs dst .undef, H', nx⟩ R) : EW false C ops (⟨dst, .store t x y, ty, ps, af, g⟩ :: rest) ⟨gs, hom, nx⟩ R := by
 refine w_store_b (new := [v]) hw hz hH hi hx (by rw [hc, hd]) rfl (by simpa using ha) ho (fun H' h' => h H' ?_)
 have : putA cs off [v] = cs.set off v := by
  simp only [putA, List.length_singleton]
  rw [List.set_eq_take_append_cons_drop, if_pos (by omega)]
  simp
 rwa [this] at h'
theorem Lb {l : List Item} {i id off m : Nat} {a : Bool} {cs : List AV} {d : Dat} (hz : szg C t = some (m, a)) (hH : HP hom nx l) (hi : l[i]? = some (.box id cs)) (hx : ev C ⟨gs, hom, nx⟩ x = .pt id off) (hr : (cutA cs off m).bind (mkA a) = some (.d d)) (h : EW q C ops rest ⟨putR gs dst (.d d), hom, nx⟩ R) (hw : wantedA ops gs ⟨dst, .load t x, ty, ps, af, g⟩ = some true := by rfl) : EW q C ops (⟨dst, .load t x, ty, ps, af, g⟩ :: rest) ⟨gs, hom, nx⟩ R := w_load_b hw hz hH hi hx hr h
theorem w_faddr_d {f off m : Nat} {a : Bool} {d : Dat} (hw : wantedA ops gs ⟨dst, .fieldAddr t x f, ty, ps, af, g⟩ = some true) (hf : fo C t f = some (off, m, a)) (hm : m ≠ 0) (hr : addA (ev C ⟨gs, hom, nx⟩ x) off = some (.d d))
  (h : EW q C ops rest ⟨putR gs dst (.d d), hom, nx⟩ R) : EW q C ops (⟨dst, .fieldAddr t x f, ty, ps, af, g⟩ :: rest) ⟨gs, hom, nx⟩ R := w_faddr hw hf hm hr h
theorem Fb {f off m id o : Nat} {a : Bool} (hf : fo C t f = some (off, m, a)) (hm : m ≠ 0) (hx : ev C ⟨gs, hom, nx⟩ x = .pt id o) (o' : Nat) (ho : o + off = o') (h : EW q C ops rest ⟨putR gs dst (.pt id o'), hom, nx⟩ R) (hw : wantedA ops gs ⟨dst, .fieldAddr t x f, ty, ps, af, g⟩ = some true := by rfl) : EW q C ops (⟨dst, .fieldAddr t x f, ty, ps, af, g⟩ :: rest) ⟨gs, hom, nx⟩ R := w_faddr hw hf hm (by rw [hx, ← ho]; rfl) h
theorem w_faddr_e {f off m id i o : Nat} {a : Bool} (hw : wantedA ops gs ⟨dst, .fieldAddr t x f, ty, ps, af, g⟩ = some true) (hf : fo C t f = some (off, m, a)) (hm : m ≠ 0) (hx : ev C ⟨gs, hom, nx⟩ x = .pe id i o) (o' : Nat) (ho : o + off = o')
  (h : EW q C ops rest ⟨putR gs dst (.pe id i o'), hom, nx⟩ R) : EW q C ops (⟨dst, .fieldAddr t x f, ty, ps, af, g⟩ :: rest) ⟨gs, hom, nx⟩ R := w_faddr hw hf hm (by rw [hx, ← ho]; rfl) h
theorem w_extract_d {i : Nat} {vs : List AV} {d : Dat} (hw : wantedA ops gs ⟨dst, .extract x i, ty, ps, af, g⟩ = some true) (hx : ev C ⟨gs, hom, nx⟩ x = .tup vs) (hr : vs[i]? = some (.d d))
  (h : EW q C ops rest ⟨putR gs dst (.d d), hom, nx⟩ R) : EW q C ops (⟨dst, .extract x i, ty, ps, af, g⟩ :: rest) ⟨gs, hom, nx⟩ R := w_extract hw hx hr h
end
end Go.Jv
namespace Go.Jv
def idx {α : Type} (l : List α) (i : Int) : Option α := if 0 ≤ i then l[i.toNat]? else none
def w64 (n : Int) : Int := IntKind.i64.wrap n
def app {α : Type} (B : Nat) (l new : List α) : Option (List α) := if (l.length + new.length) * B ≤ 140737488355328 then some (l ++ new) else none
def cut {α : Type} (l : List α) (lo hi : Int) : Option (List α) := if 0 ≤ lo ∧ lo ≤ hi ∧ hi ≤ l.length then some ((l.drop lo.toNat).take (hi.toNat - lo.toNat)) else none
def scut (s : ByteArray) (lo hi : Int) : Option ByteArray := if 0 ≤ lo ∧ lo ≤ hi ∧ hi ≤ s.size then some (s.extract lo.toNat hi.toNat) else none
def sidx (s : ByteArray) (i : Int) : Option Int := if 0 ≤ i then (s[i.toNat]?).map fun b => (b.toNat : Int) else none
def eL {α : Type} (f : α → Dat) (l : List α) : Dat := .lst (l.map f)
def eA {α : Type} (f : α → Dat) (l : List α) : Dat := .agg (l.map f)
def shrI (k : IntKind) (a b : Int) : Option Int := if b < 0 then none else some (a.fdiv (2 ^ (min b.toNat k.bits)))
structure A2 (α : Type) where
 e0 : α
 e1 : α
 deriving Inhabited, DecidableEq
structure A3 (α : Type) where
 e0 : α
 e1 : α
 e2 : α
 deriving Inhabited, DecidableEq
def A2.get {α : Type} (a : A2 α) (i : Int) : Option α := if i = 0 then some a.e0 else if i = 1 then some a.e1 else none
def A3.get {α : Type} (a : A3 α) (i : Int) : Option α := if i = 0 then some a.e0 else if i = 1 then some a.e1 else if i = 2 then some a.e2 else none
def A2.enc {α : Type} (f : α → Dat) (a : A2 α) : Dat := .agg [f a.e0, f a.e1]
section
variable {C : Cfg} {s : St} {gs : Nat → AV} {hom : Hs} {nx : Nat} {q : Bool} {ops : Array Oper} {rest : List Oper} {R : St → Prop} {Q : Ex → St → Prop}
theorem jmp (i : Nat) (v : AV) {c : Code} {p : Way} {g : Nat → AV} {H : Hs} {n : Nat} (hv : g i = v) (h : PAt C c p ⟨upd g i v, H, n⟩ Q) : PAt C c p ⟨g, H, n⟩ Q := by
 have : upd g i v = g := by funext j; simp only [upd]; split
                            ·rename_i e; rw [e, hv]
                            ·rfl
 rwa [this] at h
theorem jm (i : Nat) {v : AV} {c : Code} {p : Way} {g : Nat → AV} {H : Hs} {n : Nat} (h : PAt C c p ⟨upd g i v, H, n⟩ Q) (hv : g i = v := by rfl) : PAt C c p ⟨g, H, n⟩ Q := jmp i v hv h
theorem pd {F : Func} {rs : List Dat} {ex : Ex} {vs : List AV} {H' : Hs} (he : ex = .ret ∨ ex = .normal) (h1 : resultsA C s F.results.toList = some vs) (h2 : frzAll s.homes vs = some (rs, H')) : PostD C F rs ex s :=
 ⟨fun i hi => (by rcases he with e | e <;> rw [e] at hi <;> cases hi), vs, H', h1, h2⟩
variable {dst : Option Tmp} {ty : TypeId} {ps : String} {af : Array Edge} {g : Option (Nat × Bool)} {t u : TypeId} {x y z : Operand} {v : AV} {ρ : Type} {r : ρ}
theorem w_opt {β : Type} {m : Option β} {k : β → Option ρ} {o : Oper} {f : β → AV} (hm : (m >>= k) = some r) (hw : wantedA ops gs o = some true)
  (ho : ∀ y, m = some y → opV C (ev C ⟨gs, hom, nx⟩) o.op hom nx = some (f y, hom, nx)) (hq : q = true → (footA C hom nx nx (ev C ⟨gs, hom, nx⟩) o.op).md = noFt.md ∧ isCallV o.op = false)
  (h : ∀ y, k y = some r → EW q C ops rest ⟨putR gs o.dst (f y), hom, nx⟩ R) : EW q C ops (o :: rest) ⟨gs, hom, nx⟩ R := by
 obtain ⟨y, h1, h2⟩ := Option.bind_eq_some_iff.1 hm
 exact w_op hw (ho y h1) hq (h y h2)
theorem w_optF {β : Type} {m : Option β} {k : β → Option ρ} {o : Oper} {f : β → AV} (hm : (m >>= k) = some r) (hw : wantedA ops gs o = some true)
  (ho : ∀ y, m = some y → opV C (ev C ⟨gs, hom, nx⟩) o.op hom nx = some (f y, hom, nx)) (hn : opF C (ev C ⟨gs, hom, nx⟩) o.op hom nx = opV C (ev C ⟨gs, hom, nx⟩) o.op hom nx) (hq : (footA C hom nx nx (ev C ⟨gs, hom, nx⟩) o.op).md = noFt.md)
  (h : ∀ y, k y = some r → EW q C ops rest ⟨putR gs o.dst (f y), hom, nx⟩ R) : EW q C ops (o :: rest) ⟨gs, hom, nx⟩ R := by
 obtain ⟨y, h1, h2⟩ := Option.bind_eq_some_iff.1 hm
 exact w_opF hw (ho y h1) (fun _ => hn) (fun _ => hq) (h y h2)
theorem get_of_idx {α : Type} {l : List α} {i : Int} {v : α} (h : idx l i = some v) : 0 ≤ i ∧ l[i.toNat]? = some v := by
 unfold idx at h
 split at h
 ·rename_i h1; exact ⟨h1, h⟩
 ·cases h
theorem w_idx {α : Type} {enc : α → Dat} {l : List α} {i : Int} {kd : IntKind} {k : α → Option ρ} {el : TypeId} {m : Nat} {a : Bool} (hm : ((idx l i) >>= k) = some r) (hw : wantedA ops gs ⟨dst, .indexAddr t x y, ty, ps, af, g⟩ = some true)
  (he : elemT C t = some el) (hz : szg C el = some (m, a)) (hc : ∀ v, (enc v).cells.length = m) (hx : ev C ⟨gs, hom, nx⟩ x = .d (.lst (l.map enc))) (hy : ev C ⟨gs, hom, nx⟩ y = .d (.int kd i))
  (h : ∀ v, k v = some r → EW q C ops rest ⟨putR gs dst (.d (.ptr (enc v).cells)), hom, nx⟩ R) : EW q C ops (⟨dst, .indexAddr t x y, ty, ps, af, g⟩ :: rest) ⟨gs, hom, nx⟩ R := by
 refine w_opt (f := fun v => .d (.ptr (enc v).cells)) hm hw (fun v hv => ?_) (fun _ => ⟨rfl, rfl⟩) h
 obtain ⟨h0, h1⟩ := get_of_idx hv
 refine o_iaddr ?_
 simp only [indexAddrA, hx, hy, intOfA, he]
 rw [if_neg (by omega)]
 simp [h1, (szg_parts hz).1, hc]
theorem w_idx_own {α : Type} {enc : α → Dat} {l : List α} {i : Int} {kd : IntKind} {k : α → Option ρ} {el : TypeId} {m : Nat} {a : Bool} {L : List Item} {j : Nat} {w : AV} (hm : ((idx l i) >>= k) = some r) (hw : wantedA ops gs ⟨dst, .indexAddr t x y, ty, ps, af, g⟩ = some true)
  (he : elemT C t = some el) (hz : szg C el = some (m, a)) (hH : HP hom nx L) (hj : L[j]? = some (.own w ⟨el, m⟩ (l.map enc))) (hx : ev C ⟨gs, hom, nx⟩ x = w) (hy : ev C ⟨gs, hom, nx⟩ y = .d (.int kd i))
  (h : ∀ id v, k v = some r → w = .sl id 0 l.length → l[i.toNat]? = some v → EW q C ops rest ⟨putR gs dst (.pe id i.toNat 0), hom, nx⟩ R) : EW q C ops (⟨dst, .indexAddr t x y, ty, ps, af, g⟩ :: rest) ⟨gs, hom, nx⟩ R := by
 obtain ⟨v, h1, h2⟩ := Option.bind_eq_some_iff.1 hm
 obtain ⟨h0, h1⟩ := get_of_idx h1
 rcases hH.get hj with ⟨_, h3⟩ | ⟨id, ys, h3, h4⟩
 ·simp only [List.map_eq_nil_iff] at h3
  subst h3
  simp at h1
 ·rw [List.length_map] at h3
  refine w_op hw (v := .pe id i.toNat 0) (H1 := hom) (n1 := nx) (o_iaddr ?_) (fun _ => ⟨rfl, rfl⟩) (h id v h2 h3 h1)
  have hl : i.toNat < l.length := (List.getElem?_eq_some_iff.1 h1).1
  simp only [indexAddrA, hx, hy, intOfA, he, h3]
  rw [if_neg (by omega)]
  simp only [szIs, h4, szOf, (szg_parts hz).1]
  rw [if_pos ⟨by omega, by simp⟩]
  simp
theorem w_load_e {α : Type} {enc : α → Dat} {l : List α} {i o : Nat} {el : TypeId} {m m' : Nat} {a : Bool} {L : List Item} {j id : Nat} {w : AV} {e : α} {d : Dat} (hw : wantedA ops gs ⟨dst, .load t x, ty, ps, af, g⟩ = some true) (hz : szg C t = some (m, a))
  (hH : HP hom nx L) (hj : L[j]? = some (.own w ⟨el, m'⟩ (l.map enc))) (hid : w = .sl id 0 l.length) (hx : ev C ⟨gs, hom, nx⟩ x = .pe id i o) (he : l[i]? = some e) (hr : (cutD (enc e).cells o m).bind (mkD a) = some d)
  (h : EW q C ops rest ⟨putR gs dst (.d d), hom, nx⟩ R) : EW q C ops (⟨dst, .load t x, ty, ps, af, g⟩ :: rest) ⟨gs, hom, nx⟩ R := by
 obtain ⟨h1, h2⟩ := szg_parts hz
 rcases hH.get hj with ⟨h3, _⟩ | ⟨id', ys, h3, h4⟩
 ·rw [hid] at h3; cases h3
 ·rw [hid] at h3
  injection h3 with h5
  subst h5
  have hg : (l.map enc ++ ys)[i]? = some (enc e) := by
   rw [List.getElem?_append_left (by simpa using (List.getElem?_eq_some_iff.1 he).1)]
   simp [he]
  exact w_op hw (o_load (by simp only [loadA, h1, h2, hx, h4, hg, hr]; rfl)) (fun _ => ⟨rfl, rfl⟩) h
theorem w_scal {β : Type} {m : Option β} {k : β → Option ρ} {f : FuncId} {args : Array Operand} {ts : Array TypeId} {xs : List Dat} {E : β → List Dat} (hm : (m >>= k) = some r)
  (hw : wantedA ops gs ⟨dst, .call ⟨.value (.func f), args, ts⟩, ty, ps, af, g⟩ = some true) (hs : C.sig f = .scal) (hf : seeAll (see 4 hom) (args.toList.map (ev C ⟨gs, hom, nx⟩)) = some xs)
  (hc : ∀ y, m = some y → callD C f xs = some (E y)) (hp : ∀ y, (E y).all plainD = true)
  (h : ∀ y, k y = some r → EW q C ops rest ⟨putR gs dst (tupA ((E y).map .d)), hom, nx⟩ R) : EW q C ops (⟨dst, .call ⟨.value (.func f), args, ts⟩, ty, ps, af, g⟩ :: rest) ⟨gs, hom, nx⟩ R :=
 w_optF (f := fun y => tupA ((E y).map .d)) hm hw (fun y hy => o_scal rfl hs hf (hc y hy) (hp y)) (opF_nr (f := f) (caps := []) rfl (by rw [hs]; simp)) (by simp [footA, fnOf, ev, hs]) h
theorem w_dat {β : Type} {m : Option β} {k : β → Option ρ} {f : FuncId} {args : Array Operand} {ts : Array TypeId} {xs : List Dat} {E : β → List Dat} (hm : (m >>= k) = some r)
  (hw : wantedA ops gs ⟨dst, .call ⟨.value (.func f), args, ts⟩, ty, ps, af, g⟩ = some true) (hs : C.sig f = .dat) (hf : frzAll hom (args.toList.map (ev C ⟨gs, hom, nx⟩)) = some (xs, hom))
  (hd : ((args.toList.map (ev C ⟨gs, hom, nx⟩)).all fun x => (datA x).isSome) = true) (hc : ∀ y, m = some y → callD C f xs = some (E y))
  (h : ∀ y, k y = some r → EW q C ops rest ⟨putR gs dst (tupA ((E y).map .d)), hom, nx⟩ R) : EW q C ops (⟨dst, .call ⟨.value (.func f), args, ts⟩, ty, ps, af, g⟩ :: rest) ⟨gs, hom, nx⟩ R :=
 w_optF (f := fun y => tupA ((E y).map .d)) hm hw (fun y hy => o_dat rfl hs hf (hc y hy)) (opF_nr (f := f) (caps := []) rfl (by rw [hs]; simp)) (by
  simp only [footA, fnOf, ev, hs, List.map_nil, List.append_nil]
  have : ((args.toList.map (ev C ⟨gs, hom, nx⟩)).all fun x => (datA x).isSome) = true := hd
  rw [if_pos this]) h
theorem sn {f : AV → Option Dat} : seeAll f [] = some [] := rfl
theorem sc {f : AV → Option Dat} {v : AV} {vs : List AV} {d : Dat} {ds : List Dat} (h : f v = some d) (k : seeAll f vs = some ds) : seeAll f (v :: vs) = some (d :: ds) := by simp [seeAll, h, k]
theorem so {H : Hs} {n : Nat} {L : List Item} {j : Nat} {w : AV} {z : Row} {xs : List Dat} (N : Nat) (hH : HP H n L) (hj : L[j]? = some (.own w z xs)) : see (N + 1) H w = some (.lst xs) := by
 rcases hH.get hj with ⟨rfl, rfl⟩ | ⟨id, ys, rfl, h4⟩
 ·rfl
 ·simp only [see, h4]
  rw [if_pos ⟨by omega, by simp⟩]
  simp [win]
theorem w_len {m : Int} (hw : wantedA ops gs ⟨dst, .call ⟨.builtin .len, #[x], #[t]⟩, ty, ps, af, g⟩ = some true) (hl : lenA C t (ev C ⟨gs, hom, nx⟩ x) = some m)
  (h : EW q C ops rest ⟨putR gs dst (.d (.int .i64 m)), hom, nx⟩ R) : EW q C ops (⟨dst, .call ⟨.builtin .len, #[x], #[t]⟩, ty, ps, af, g⟩ :: rest) ⟨gs, hom, nx⟩ R :=
 w_op hw (o_len hl) (fun _ => ⟨rfl, rfl⟩) h
theorem elemT_ty {t el : TypeId} (he : elemT C t = some el) : ∃ y, C.ty t = some y ∧ y.desc = .slice el := by
 unfold elemT at he
 split at he
 ·rename_i y hy
  split at he
  ·rename_i e hd; cases he; exact ⟨y, hy, hd⟩
  ·cases he
 ·cases he
theorem w_len_d {α : Type} {enc : α → Dat} {l : List α} {el : TypeId} (he : elemT C t = some el) (hx : ev C ⟨gs, hom, nx⟩ x = .d (.lst (l.map enc))) (h : EW q C ops rest ⟨putR gs dst (.d (.int .i64 (l.length : Int))), hom, nx⟩ R) (hw : wantedA ops gs ⟨dst, .call ⟨.builtin .len, #[x], #[t]⟩, ty, ps, af, g⟩ = some true := by rfl) : EW q C ops (⟨dst, .call ⟨.builtin .len, #[x], #[t]⟩, ty, ps, af, g⟩ :: rest) ⟨gs, hom, nx⟩ R := by
 obtain ⟨y, h1, h2⟩ := elemT_ty he
 exact w_len hw (by simp [lenA, h1, h2, hx]) h
theorem w_len_own {α : Type} {enc : α → Dat} {l : List α} {el : TypeId} {L : List Item} {j : Nat} {w : AV} {z : Row} (hw : wantedA ops gs ⟨dst, .call ⟨.builtin .len, #[x], #[t]⟩, ty, ps, af, g⟩ = some true) (he : elemT C t = some el)
  (hH : HP hom nx L) (hj : L[j]? = some (.own w z (l.map enc))) (hx : ev C ⟨gs, hom, nx⟩ x = w)
  (h : EW q C ops rest ⟨putR gs dst (.d (.int .i64 (l.length : Int))), hom, nx⟩ R) : EW q C ops (⟨dst, .call ⟨.builtin .len, #[x], #[t]⟩, ty, ps, af, g⟩ :: rest) ⟨gs, hom, nx⟩ R := by
 obtain ⟨y, h1, h2⟩ := elemT_ty he
 refine w_len hw ?_ h
 rcases hH.get hj with ⟨h3, h4⟩ | ⟨id, ys, h3, h4⟩
 ·simp only [List.map_eq_nil_iff] at h4
  subst h4
  simp [lenA, h1, h2, hx, h3]
 ·simp [lenA, h1, h2, hx, h3]
theorem w_len_s {b : ByteArray} (hw : wantedA ops gs ⟨dst, .call ⟨.builtin .len, #[x], #[t]⟩, ty, ps, af, g⟩ = some true) (he : (C.ty t).map (·.desc) = some .string) (hx : ev C ⟨gs, hom, nx⟩ x = .d (.str b))
  (h : EW q C ops rest ⟨putR gs dst (.d (.int .i64 (b.size : Int))), hom, nx⟩ R) : EW q C ops (⟨dst, .call ⟨.builtin .len, #[x], #[t]⟩, ty, ps, af, g⟩ :: rest) ⟨gs, hom, nx⟩ R := by
 obtain ⟨y, h1, h2⟩ := Option.map_eq_some_iff.1 he
 exact w_len hw (by simp [lenA, h1, h2, hx]) h
theorem HP.addNil {H : Hs} {n : Nat} {L : List Item} (z : Row) (hH : HP H n L) : HP H n (.own .nil z [] :: L) :=
 ⟨by rw [List.flatMap_cons]; simpa [Item.live, idOf] using hH.nd, fun it hi => by
  rcases List.mem_cons.1 hi with rfl | hi
  ·exact .inl ⟨rfl, rfl⟩
  ·exact hH.ok it hi, fun it hi i hm => by
  rcases List.mem_cons.1 hi with rfl | hi
  ·simp [Item.ids, idOf] at hm
  ·exact hH.lt it hi i hm⟩
theorem sub_flatMap {α β : Type} (f : α → List β) : ∀ {l l' : List α}, l'.Sublist l → (l'.flatMap f).Sublist (l.flatMap f) := by
 intro l l' h
 induction h with
 | slnil => exact List.Sublist.refl _
 | cons a _ ih => rw [List.flatMap_cons]; exact ih.trans (List.sublist_append_right _ _)
 | cons_cons a _ ih => rw [List.flatMap_cons, List.flatMap_cons]; exact (List.Sublist.refl _).append ih
theorem HP.sub {H : Hs} {n : Nat} {L L' : List Item} (hH : HP H n L) (hs : L'.Sublist L) : HP H n L' :=
 ⟨List.Nodup.sublist (sub_flatMap Item.live hs) hH.nd, fun it hi => hH.ok it (hs.subset hi), fun it hi => hH.lt it (hs.subset hi)⟩
theorem base_own {H : Hs} {n : Nat} {L : List Item} {j : Nat} {w : AV} {z : Row} {xs : List Dat} (hH : HP H n L) (hj : L[j]? = some (.own w z xs)) : ∃ H1, baseA H z w = some (xs, H1) ∧ HP H1 n (L.eraseIdx j) := by
 rcases hH.get hj with ⟨rfl, rfl⟩ | ⟨id, ys, rfl, h4⟩
 ·exact ⟨H, rfl, hH.sub (List.eraseIdx_sublist _ _)⟩
 ·refine ⟨upd H id .dead, ?_, (hH.pick j hj).other (by simp [Item.live, idOf])⟩
  simp [baseA, h4]
def Shows (H : Hs) (x : AV) (new : List Dat) : Prop := see 1 H x = some (.lst new)
theorem shows_d {H : Hs} {xs : List Dat} : Shows H (.d (.lst xs)) xs := rfl
theorem shows_own {H : Hs} {n : Nat} {L : List Item} {j : Nat} {w : AV} {z : Row} {xs : List Dat} (hH : HP H n L) (hj : L[j]? = some (.own w z xs)) : Shows H w xs := so 0 hH hj
theorem w_append {α : Type} {enc : α → Dat} {l new : List α} {B : Nat} {k : List α → Option ρ} {el : TypeId} {m : Nat} {a : Bool} {L : List Item} {j : Nat} {w : AV} (hm : ((app B l new) >>= k) = some r)
  (hw : wantedA ops gs ⟨dst, .call ⟨.builtin .append, #[x, y], #[t, t]⟩, ty, ps, af, g⟩ = some true) (he : elemT C t = some el) (hz : szg C el = some (m, a)) (hB : (C.ty el).map (·.bytes) = some B) (h0 : 0 < m ∧ 0 < B) (hc : ∀ v, (enc v).cells.length = m)
  (hH : HP hom nx L) (hj : L[j]? = some (.own w ⟨el, m⟩ (l.map enc))) (hx : ev C ⟨gs, hom, nx⟩ x = w) (hy : Shows hom (ev C ⟨gs, hom, nx⟩ y) (new.map enc))
  (h : ∀ l' w' H' n', k l' = some r → HP H' n' (.own w' ⟨el, m⟩ (l'.map enc) :: L.eraseIdx j) → EW false C ops rest ⟨putR gs dst w', H', n'⟩ R) :
  EW false C ops (⟨dst, .call ⟨.builtin .append, #[x, y], #[t, t]⟩, ty, ps, af, g⟩ :: rest) ⟨gs, hom, nx⟩ R := by
 obtain ⟨l', h1, h2⟩ := Option.bind_eq_some_iff.1 hm
 unfold app at h1
 split at h1
 ·rename_i hb
  cases h1
  obtain ⟨H1, h3, h4⟩ := base_own hH hj
  obtain ⟨ye, hye, h5⟩ := Option.map_eq_some_iff.1 hB
  have h6 : ye.size = m := by have := (szg_parts hz).1; simpa [sizeT, hye] using this
  have hp : HP (upd H1 nx (.own ⟨el, m⟩ ((l ++ new).map enc))) (nx + 1) (.own (.sl nx 0 (l ++ new).length) ⟨el, m⟩ ((l ++ new).map enc) :: L.eraseIdx j) := by
   refine h4.new (by simp [Item.ids, idOf]) ?_
   exact .inr ⟨nx, [], by simp, by simp [upd]⟩
  refine w_op hw (o_append (r := (.sl nx 0 (l ++ new).length, upd H1 nx (.own ⟨el, m⟩ ((l ++ new).map enc)), nx + 1)) ?_) (by simp) (h _ _ _ _ h2 hp)
  simp only [Shows] at hy
  simp only [appendA, if_true, he, hye, h6, hx, h3, hy, h5]
  rw [if_pos]
  ·simp
  ·refine ⟨?_, h0.1, h0.2, by simpa using hb⟩
   simp [hc]
 ·cases h1
end
end Go.Jv
