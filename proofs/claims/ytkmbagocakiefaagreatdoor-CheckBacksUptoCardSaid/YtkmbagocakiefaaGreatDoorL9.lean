/- Equations of the abstract machine, for walks by rewriting. -/
import Derived.Test.YtkmbagocakiefaaGreatDoorL8
import Derived.Laws.BitsLemmas
namespace Go.Jv
theorem AH (C : Cfg) (a b : Code) (s : St) : dk C (.seq a b) s = (dk C a s).bind fun r => match r.1 with | .normal => dk C b r.2 | e => some (e, r.2) := by
 rw [dk]; rfl
theorem rh (C : Cfg) (id : Nat) (a : Code) (s : St) : dk C (.block id a) s = (dk C a s).bind fun r => match r.1 with | .exit id' => if id' = id then some (.normal, r.2) else some (.exit id', r.2) | e => some (e, r.2) := by
 rw [dk]; rfl
theorem xR (C : Cfg) (a : Code) (s : St) : dk C (.loop a) s = (dk C a s).bind fun r => match r.1 with | .normal => dk C (.loop a) r.2 | e => some (e, r.2) := by
 rw [dk]; rfl
theorem Dz (C : Cfg) (x : Operand) (a b : Code) (s : St) : dk C (.cond x a b) s = match ev C s x with
  | .d (.bool true) => dk C a s
  | .d (.bool false) => dk C b s
  | _ => none := by
 rw [dk]; rfl
theorem IF (C : Cfg) (s : St) : dk C .skip s = some (.normal, s) := by rw [dk]
theorem JG (C : Cfg) (s : St) : dk C .ret s = some (.ret, s) := by rw [dk]
theorem IG (C : Cfg) (i : Nat) (s : St) : dk C (.exit i) s = some (.exit i, s) := by rw [dk]
theorem Ge (C : Cfg) (i : Nat) (ops : Array Oper) (s : St) : dk C (.region i ops false) s = (fV C ops ops.toList s).bind fun s' => some (.normal, s') := by rw [dk]; rfl
theorem IH (C : Cfg) (i : Nat) (ops : Array Oper) (s : St) (h1 : jQ ops = true) (h2 : (iU ops.toList).isEmpty = true) :
  dk C (.region i ops true) s = (fV C ops ops.toList s).bind fun s' => some (.normal, s') := by rw [dk]; simp only [h1, h2, if_true]; rfl
theorem Hr (C : Cfg) (ops : Array Oper) (s : St) : fV C ops [] s = some s := by rw [fV]
theorem pG (C : Cfg) (ops : Array Oper) (o : Oper) (rest : List Oper) (s : St) : fV C ops (o :: rest) s = match am ops s.regs o with
  | none => none
  | some false => fV C ops rest { s with regs := aK s.regs o.dst .undef }
  | some true => (opV C (ev C s) o.op s.homes s.next).bind fun r => fV C ops rest { regs := aK s.regs o.dst r.1, homes := r.2.1, next := r.2.2 } := by rw [fV]; rfl
def fo (C : Cfg) (t : TypeId) (f : Nat) : Option (Nat × Nat × Bool) :=
 (nw C t f).bind fun fd => match bP C fd.type, lP C fd.type with | some n, some g => some (fd.offset, n, g) | _, _ => none
theorem JH {C : Cfg} {t : TypeId} {f off n : Nat} {g : Bool} (h : fo C t f = some (off, n, g)) : ∃ fd, nw C t f = some fd ∧ bP C fd.type = some n ∧ lP C fd.type = some g ∧ fd.offset = off := by
 unfold fo at h
 obtain ⟨fd, h1, h2⟩ := Option.bind_eq_some_iff.1 h
 split at h2
 ·rename_i n' g' h3 h4
  cases h2
  exact ⟨fd, h1, h3, h4, rfl⟩
 ·cases h2
theorem DZ {C : Cfg} {t : TypeId} {f off n : Nat} {g : Bool} (h : fo C t f = some (off, n, g)) (hn : n ≠ 0) (H : Hs) (nx : Nat) (e : Operand → AV) (x : Operand) :
  act C H nx e (.fieldAddr t x f) = (vE (e x) off).map fun v => (v, H, nx) := by
 obtain ⟨fd, h1, h2, _, h4⟩ := JH h
 simp [act, h1, h2, h4, hn]
def dc (C : Cfg) (t : TypeId) : Option (List (Nat × Nat)) :=
 match C.ty t with
 | some y => match y.desc with
  | .struct fs => fs.toList.mapM fun f => (bP C f.type).map fun z => (f.offset, z)
  | _ => none
 | none => none
theorem wk {C : Cfg} {t : TypeId} {ps : List (Nat × Nat)} (h : dc C t = some ps) {y : Ty} (hy : C.ty t = some y) (parts : List (Nat × AV)) : rX C t parts = (er dD (fun i => ps[i]?) y.zero parts).map .agg := by
 unfold dc at h
 unfold rX
 simp only [hy] at h ⊢
 split at h
 ·rename_i fs hd
  simp only [hd]
  have : (fun i : Nat => match fs[i]? with | some (f : Field) => (bP C f.type).map fun z => (f.offset, z) | none => none) = fun i => ps[i]? := by
   funext i
   obtain ⟨h1, h2⟩ := oT h
   cases hf : fs[i]? with
   | none =>
    have : ps.length ≤ i := by rw [h1]; simpa using hf
    simp [this]
   | some f =>
    obtain ⟨z, hz, hz2⟩ := h2 i f (by simpa using hf)
    simp only [hz2, hz]
  exact congrArg (fun p => (er dD p y.zero parts).map AV.agg) this
 ·cases h
end Go.Jv
namespace Go.Jv
def CZ {α : Type} (r : Option α) (Q : α → Prop) : Prop := ∃ a, r = some a ∧ Q a
theorem CZ.mono {α : Type} {r : Option α} {Q Q' : α → Prop} (h : CZ r Q) (hq : ∀ a, Q a → Q' a) : CZ r Q' := let ⟨a, h1, h2⟩ := h; ⟨a, h1, hq a h2⟩
def Nx (b : St → Prop) (Q : Ex → St → Prop) : Ex → St → Prop
 | .normal, s => b s
 | e, s => Q e s
def EC (C : Cfg) (c : Code) (s : St) (Q : Ex → St → Prop) : Prop := CZ (dk C c s) fun r => Q r.1 r.2
def EO (C : Cfg) (ops : Array Oper) (l : List Oper) (s : St) (R : St → Prop) : Prop := CZ (fV C ops l s) R
def Blk (id : Nat) (Q : Ex → St → Prop) : Ex → St → Prop
 | .exit id', s => if id' = id then Q .normal s else Q (.exit id') s
 | e, s => Q e s
section
variable {C : Cfg} {s : St} {Q : Ex → St → Prop} {ops : Array Oper} {rest : List Oper} {R : St → Prop}
theorem Ow {a b : Code} (h : EC C a s (Nx (fun s' => EC C b s' Q) Q)) : EC C (.seq a b) s Q := by
 obtain ⟨⟨e, s'⟩, h1, h2⟩ := h
 cases e with
 | normal => obtain ⟨r, h3, h4⟩ := h2; exact ⟨r, by rw [AH, h1]; exact h3, h4⟩
 | exit id => exact ⟨_, by rw [AH, h1]; rfl, h2⟩
 | ret => exact ⟨_, by rw [AH, h1]; rfl, h2⟩
theorem JT {i : Nat} (h : EO C ops ops.toList s (fun s' => Q .normal s')) : EC C (.region i ops false) s Q := by
 obtain ⟨s', h1, h2⟩ := h
 exact ⟨_, by rw [Ge, h1]; rfl, h2⟩
theorem M4 {i : Nat} (hd : jQ ops = true) (hu : (iU ops.toList).isEmpty = true) (h : EO C ops ops.toList s (fun s' => Q .normal s')) : EC C (.region i ops true) s Q := by
 obtain ⟨s', h1, h2⟩ := h
 exact ⟨_, by rw [IH C i ops s hd hu, h1]; rfl, h2⟩
theorem Ox (h : R s) : EO C ops [] s R := ⟨s, Hr .., h⟩
theorem JU {x : Operand} {a b : Code} (hx : ev C s x = .d (.bool true)) (h : EC C a s Q) : EC C (.cond x a b) s Q := by
 obtain ⟨r, h1, h2⟩ := h
 exact ⟨r, by rw [Dz, hx]; exact h1, h2⟩
theorem JV {x : Operand} {a b : Code} (hx : ev C s x = .d (.bool false)) (h : EC C b s Q) : EC C (.cond x a b) s Q := by
 obtain ⟨r, h1, h2⟩ := h
 exact ⟨r, by rw [Dz, hx]; exact h1, h2⟩
theorem KZ {id : Nat} {a : Code} (h : EC C a s (Blk id Q)) : EC C (.block id a) s Q := by
 obtain ⟨⟨e, s'⟩, h1, h2⟩ := h
 cases e with
 | exit id' =>
  simp only [Blk] at h2
  split at h2
  ·rename_i he; exact ⟨_, by rw [rh, h1]; simp [he]; rfl, h2⟩
  ·rename_i he; exact ⟨_, by rw [rh, h1]; simp [he]; rfl, h2⟩
 | normal => exact ⟨_, by rw [rh, h1]; rfl, h2⟩
 | ret => exact ⟨_, by rw [rh, h1]; rfl, h2⟩
theorem M5 {a : Code} (h : EC C a s (Nx (fun s' => EC C (.loop a) s' Q) Q)) : EC C (.loop a) s Q := by
 obtain ⟨⟨e, s'⟩, h1, h2⟩ := h
 cases e with
 | normal => obtain ⟨r, h3, h4⟩ := h2; exact ⟨r, by rw [xR, h1]; exact h3, h4⟩
 | exit id => exact ⟨_, by rw [xR, h1]; rfl, h2⟩
 | ret => exact ⟨_, by rw [xR, h1]; rfl, h2⟩
theorem M6 (h : Q .normal s) : EC C .skip s Q := ⟨_, IF .., h⟩
theorem Oy (h : Q .ret s) : EC C .ret s Q := ⟨_, JG .., h⟩
theorem M7 {i : Nat} (h : Q (.exit i) s) : EC C (.exit i) s Q := ⟨_, IG .., h⟩
theorem Oz {i : Nat} (h : Q .normal s) : Blk i Q (.exit i) s := by simp only [Blk, if_true]; exact h
theorem OA {i j : Nat} (hn : j ≠ i) (h : Q (.exit j) s) : Blk i Q (.exit j) s := by simp only [Blk, if_neg hn]; exact h
end
end Go.Jv
namespace Go.Jv
section
variable {C : Cfg} {e : Operand → AV} {H : Hs} {n : Nat}
theorem bW {o : Op} (h : ∀ fv args ats, o ≠ .call ⟨.value fv, args, ats⟩) : opV C e o H n = act C H n e o := by
 rw [opV.eq_def]
 split
 ·rename_i fv args ats; exact absurd rfl (h fv args ats)
 ·rfl
theorem uU {x : Operand} : opV C e (.move x) H n = some (e x, H, n) := bW (fun _ _ _ h => by cases h)
theorem jS {x : Operand} : opV C e (.assign x) H n = some (e x, H, n) := bW (fun _ _ _ h => by cases h)
theorem JX {c a b : Operand} (hc : e c = .d (.bool true)) : opV C e (.pick c a b) H n = some (e a, H, n) := by
 rw [bW (fun _ _ _ h => by cases h)]; simp [act, hc]
theorem JY {c a b : Operand} (hc : e c = .d (.bool false)) : opV C e (.pick c a b) H n = some (e b, H, n) := by
 rw [bW (fun _ _ _ h => by cases h)]; simp [act, hc]
theorem C8 {op : BinOp} {t u : TypeId} {x y : Operand} {r : Dat} (h : qA C op t (e x) (e y) = some r) : opV C e (.binOp op t x y u) H n = some (.d r, H, n) := by
 rw [bW (fun _ _ _ h => by cases h)]; simp [act, h]
theorem Ew {op : BinOp} {t u : TypeId} {x y : Operand} {b b' : Bool} (h : qA C op t (e x) (e y) = some (.bool b)) (hb : b = b') : opV C e (.binOp op t x y u) H n = some (.d (.bool b'), H, n) := by
 subst hb; exact C8 h
theorem kC {op : UnOp} {t : TypeId} {x : Operand} {v r : Dat} (hx : e x = .d v) (h : unD op v = some r) : opV C e (.unOp op t x) H n = some (.d r, H, n) := by
 rw [bW (fun _ _ _ h => by cases h)]; simp [act, hx, h]
theorem mm {a b : TypeId} {x : Operand} {r : AV} (h : vF C a b (e x) = some r) : opV C e (.convert a b x) H n = some (r, H, n) := by
 rw [bW (fun _ _ _ h => by cases h)]; simp [act, h]
theorem uV {t : TypeId} {p : Operand} {v : AV} (h : iQ C H t (e p) = some v) : opV C e (.load t p) H n = some (v, H, n) := by
 rw [bW (fun _ _ _ h => by cases h)]; simp [act, h]
theorem D1 {t : TypeId} {p v : Operand} {H1 : Hs} (h : ke C H t (e p) (e v) = some H1) : opV C e (.store t p v) H n = some (.undef, H1, n) := by
 rw [bW (fun _ _ _ h => by cases h)]; simp [act, h]
theorem GN {t : TypeId} {y : Ty} (h : C.ty t = some y) : opV C e (.alloc t) H n = some (.pt n 0, upd H n (.box y.zero), n + 1) := by
 rw [bW (fun _ _ _ h => by cases h)]; simp [act, h]
theorem D2 {t : TypeId} {ps : Array (Nat × Operand)} {v : AV} (h : rX C t (ps.toList.map fun (i, x) => (i, e x)) = some v) : opV C e (.build t ps) H n = some (v, H, n) := by
 rw [bW (fun _ _ _ h => by cases h)]; simp only [act, h]; rfl
theorem lu {t : TypeId} {x : Operand} {lo hi : Option Operand} {v : AV} (h : gr C H t (e x) (lo.map e) (hi.map e) false = some v) : opV C e (.slice t x lo hi none) H n = some (v, H, n) := by
 rw [bW (fun _ _ _ h => by cases h)]; simp [act, h]
theorem D3 {t : TypeId} {x : Operand} {f off m : Nat} {g : Bool} {v : AV} (hf : fo C t f = some (off, m, g)) (hm : m ≠ 0) (h : vE (e x) off = some v) : opV C e (.fieldAddr t x f) H n = some (v, H, n) := by
 rw [bW (fun _ _ _ h => by cases h), DZ hf hm, h]; rfl
theorem ph {t : TypeId} {x i : Operand} {v : AV} (h : dJ C H t (e x) (e i) = some v) : opV C e (.indexAddr t x i) H n = some (v, H, n) := by
 rw [bW (fun _ _ _ h => by cases h)]; simp [act, h]
theorem fN {x : Operand} {i : Nat} {vs : List AV} {v : AV} (hx : e x = .tup vs) (h : vs[i]? = some v) : opV C e (.extract x i) H n = some (v, H, n) := by
 rw [bW (fun _ _ _ h => by cases h)]; simp [act, hx, h]
theorem KE {x : Operand} {t : TypeId} {m : Int} (h : nc C t (e x) = some m) : opV C e (.call ⟨.builtin .len, #[x], #[t]⟩) H n = some (.d (.int .i64 m), H, n) := by
 rw [bW (fun _ _ _ h => by cases h)]; simp [act, h]
theorem OB {args : Array Operand} {ts : Array TypeId} {v : AV} (h : Fd (args.toList.map e) = some v) : opV C e (.call ⟨.builtin .max, args, ts⟩) H n = some (v, H, n) := by
 rw [bW (fun _ _ _ h => by cases h)]; simp only [act, h]; rfl
theorem OC {args : Array Operand} {ts : Array TypeId} {v : AV} (h : Fe (args.toList.map e) = some v) : opV C e (.call ⟨.builtin .min, args, ts⟩) H n = some (v, H, n) := by
 rw [bW (fun _ _ _ h => by cases h)]; simp only [act, h]; rfl
theorem Fy {s x : Operand} {ts tx : TypeId} {r : AV × Hs × Nat} (h : ky C H n ts tx (e s) (e x) = some r) : opV C e (.call ⟨.builtin .append, #[s, x], #[ts, tx]⟩) H n = some r := by
 rw [bW (fun _ _ _ h => by cases h)]; simp [act, h]
theorem dm {x : Operand} {id o : Nat} (h : e x = .pt id o) : opV C e (.nilCheck x) H n = some (.pt id o, H, n) := by
 rw [bW (fun _ _ _ h => by cases h)]; simp [act, h]
theorem HS {f : FuncId} {args : Array Operand} {ts : Array TypeId} {xs rs : List Dat} {H1 : Hs} (he : e (.func f) = .d (.fn f [])) (hs : C.sig f = .dat) (hf : gU H (args.toList.map e) = some (xs, H1)) (hc : aL C f xs = some rs) :
  opV C e (.call ⟨.value (.func f), args, ts⟩) H n = some (dv (rs.map .d), H1, n) := by
 rw [opV]; simp [he, gP, hs, hf, hc]
theorem M8 {f : FuncId} {args : Array Operand} {ts : Array TypeId} {xs rs : List Dat} (he : e (.func f) = .d (.fn f [])) (hs : C.sig f = .scal) (hf : ck (see 4 H) (args.toList.map e) = some xs) (hc : aL C f xs = some rs) (hp : rs.all kU = true) :
  opV C e (.call ⟨.value (.func f), args, ts⟩) H n = some (dv (rs.map .d), H, n) := by
 rw [opV]; simp only [he, gP, hs, List.map_nil, List.append_nil, hf, hc]
 show (if rs.all kU = true then some (dv (rs.map .d), H, n) else none) = _
 rw [if_pos hp]
section
variable {s : St} {ops : Array Oper} {rest : List Oper} {R : St → Prop}
end
theorem JZ {f : FuncId} {xs rs : List Dat} {F : Func} {code : Code} (hx : C.ext f xs = none) (hf : C.fn f = some F) (hb : F.body = some code)
  (h : EC C code { regs := fun i => if i < xs.length then .d (xs.getD i default) else .undef, homes := fun _ => .dead, next := 0 } fun ex s => (∀ i, ex ≠ .exit i) ∧ ∃ vs rs' r, cF C s F.results.toList = some vs ∧ gU s.homes vs = some (rs', r) ∧ rs' = rs) :
  aL C f xs = some rs := by
 obtain ⟨⟨ex, s⟩, h1, h2, vs, rs', r, h3, h4, rfl⟩ := h
 rw [aL]
 simp only [hx, hf, hb]
 rw [show (dk C code _) = some (ex, s) from h1]
 cases ex with
 | exit i => exact absurd rfl (h2 i)
 | normal => simp [h3, h4]
 | ret => simp [h3, h4]
theorem K0 {f : FuncId} {vs rs : List AV} {F : Func} {code : Code} {H1 : Hs} {n1 : Nat} (hf : C.fn f = some F) (hb : F.body = some code)
  (h : EC C code { regs := fun i => if i < vs.length then vs.getD i default else .undef, homes := H, next := n } fun ex s => (∀ i, ex ≠ .exit i) ∧ cF C s F.results.toList = some rs ∧ s.homes = H1 ∧ s.next = n1) :
  nW C f vs H n = some (rs, H1, n1) := by
 obtain ⟨⟨ex, s⟩, h1, h2, h3, h4, h5⟩ := h
 rw [nW]
 simp only [hf, hb]
 rw [show (dk C code _) = some (ex, s) from h1]
 cases ex with
 | exit i => exact absurd rfl (h2 i)
 | normal => simp only at h3 h4 h5; simp [h3, h4, h5]
 | ret => simp only at h3 h4 h5; simp [h3, h4, h5]
end
end Go.Jv
namespace Go.Jv
def aj (F : Func) : Code := F.body.getD .skip
inductive Way where
 | o
 | a (p : Way)
 | b (p : Way)
def F5 : Code → Code
 | .seq a _ => a
 | .cond _ a _ => a
 | .block _ a => a
 | .loop a => a
 | _ => .skip
def Jx : Code → Code
 | .seq _ b => b
 | .cond _ _ b => b
 | _ => .skip
def sub (c : Code) : Way → Code
 | .o => c
 | .a p => F5 (sub c p)
 | .b p => Jx (sub c p)
def beh (C : Cfg) (c : Code) (Q : Ex → St → Prop) : Ex → St → Prop :=
 match c with
 | .seq _ b => Nx (fun s' => EC C b s' Q) Q
 | .block id _ => Blk id Q
 | .loop a => Nx (fun s' => EC C (.loop a) s' Q) Q
 | _ => Q
def con (C : Cfg) (c : Code) (Q : Ex → St → Prop) : Way → Ex → St → Prop
 | .o => Q
 | .a p => beh C (sub c p) (con C c Q p)
 | .b p => con C c Q p
def PAt (C : Cfg) (c : Code) (p : Way) (s : St) (Q : Ex → St → Prop) : Prop := EC C (sub c p) s (con C c Q p)
section
variable {C : Cfg} {c a b : Code} {p : Way} {s : St} {Q : Ex → St → Prop} {x : Operand} {i : Nat} {ex : Ex}
theorem GD (C : Cfg) (c : Code) (s : St) (Q : Ex → St → Prop) : PAt C c .o s Q = EC C c s Q := rfl
theorem Ps (h : sub c p = .seq a b) (k : PAt C c p.a s Q) : PAt C c p s Q := by
 simp only [PAt, sub, con, h, beh, F5] at k ⊢
 exact Ow k
theorem Pb (h : sub c p = .block i a) (k : PAt C c p.a s Q) : PAt C c p s Q := by
 simp only [PAt, sub, con, h, beh, F5] at k ⊢
 exact KZ k
theorem Po (h : sub c p = .loop a) (k : PAt C c p.a s Q) : PAt C c p s Q := by
 simp only [PAt, sub, con, h, beh, F5] at k ⊢
 exact M5 k
theorem Ct (h : sub c p = .cond x a b) (hx : ev C s x = .d (.bool true)) (k : PAt C c p.a s Q) : PAt C c p s Q := by
 simp only [PAt, sub, con, h, beh, F5] at k ⊢
 exact JU hx k
theorem Cf (h : sub c p = .cond x a b) (hx : ev C s x = .d (.bool false)) (k : PAt C c p.b s Q) : PAt C c p s Q := by
 simp only [PAt, sub, con, h, Jx] at k ⊢
 exact JV hx k
theorem KM {ρ : Type} {r : ρ} {A B : Option ρ} {v : Bool} (h : sub c p = .cond x a b) (hm : (if v = true then A else B) = some r) (hx : ev C s x = .d (.bool v)) (ht : v = true → A = some r → PAt C c p.a s Q) (hf : v = false → B = some r → PAt C c p.b s Q) : PAt C c p s Q := by
 cases v
 ·exact Cf h hx (hf rfl (by simpa using hm))
 ·exact Ct h hx (ht rfl (by simpa using hm))
theorem Pk (h : sub c p = .skip) (k : con C c Q p .normal s) : PAt C c p s Q := by
 simp only [PAt, h]; exact M6 k
theorem Pt (h : sub c p = .ret) (k : con C c Q p .ret s) : PAt C c p s Q := by
 simp only [PAt, h]; exact Oy k
theorem Px (h : sub c p = .exit i) (k : con C c Q p (.exit i) s) : PAt C c p s Q := by
 simp only [PAt, h]; exact M7 k
theorem Cr : ∀ {p : Way}, Q .ret s → con C c Q p .ret s := by
 intro p
 induction p with
 | o => exact id
 | a p ih =>
  intro h
  simp only [con]
  generalize sub c p = d
  cases d <;> exact ih h
 | b p ih => exact ih
theorem N7 (h : Q ex s) : con C c Q .o ex s := h
theorem Ns (h : sub c p = .seq a b) (k : PAt C c p.b s Q) : con C c Q p.a .normal s := by
 simp only [PAt, sub, con, h, beh, Jx] at k ⊢; exact k
theorem Nl (h : sub c p = .loop a) (k : PAt C c p s Q) : con C c Q p.a .normal s := by
 simp only [PAt, con, h, beh] at k ⊢; exact k
theorem Nk (h : sub c p = .block i a) (k : con C c Q p .normal s) : con C c Q p.a .normal s := by
 simp only [con, h, beh]; exact k
theorem Nb (k : con C c Q p ex s) : con C c Q p.b ex s := k
theorem Nc (h : sub c p = .cond x a b) (k : con C c Q p ex s) : con C c Q p.a ex s := by
 simp only [con, h, beh]; exact k
theorem Xs (h : sub c p = .seq a b) (k : con C c Q p (.exit i) s) : con C c Q p.a (.exit i) s := by
 simp only [con, h, beh]; exact k
theorem Xl (h : sub c p = .loop a) (k : con C c Q p (.exit i) s) : con C c Q p.a (.exit i) s := by
 simp only [con, h, beh]; exact k
theorem Xb (h : sub c p = .block i a) (k : con C c Q p .normal s) : con C c Q p.a (.exit i) s := by
 simp only [con, h, beh]; exact Oz k
theorem Kc {j : Nat} (h : sub c p = .block j a) (hn : i ≠ j) (k : con C c Q p (.exit i) s) : con C c Q p.a (.exit i) s := by
 simp only [con, h, beh]; exact OA hn k
end
def aq (C : Cfg) (F : Func) (rs : List Dat) : Ex → St → Prop := fun ex s => (∀ i, ex ≠ .exit i) ∧ ∃ vs H', cF C s F.results.toList = some vs ∧ gU s.homes vs = some (rs, H')
def ini (vs : List AV) : Nat → AV := fun i => if i < vs.length then vs.getD i default else .undef
theorem aB {C : Cfg} {f : FuncId} {xs rs : List Dat} {F : Func} (hx : C.ext f xs = none) (hf : C.fn f = some F) (hb : F.body.isSome = true)
  (h : PAt C (aj F) .o { regs := ini (xs.map .d), homes := fun _ => .dead, next := 0 } (aq C F rs)) : aL C f xs = some rs := by
 obtain ⟨code, hc⟩ := Option.isSome_iff_exists.1 hb
 have e : aj F = code := by simp [aj, hc]
 refine JZ hx hf hc ?_
 have hi : (fun i => if i < xs.length then AV.d (xs.getD i default) else AV.undef) = ini (xs.map .d) := by
  funext i
  simp only [ini, List.length_map]
  split
  ·rename_i hlt
   simp [hlt]
  ·rfl
 rw [hi]
 rw [e, GD] at h
 refine CZ.mono h ?_
 rintro ⟨ex, s⟩ ⟨h1, vs, H', h2, h3⟩
 exact ⟨h1, vs, rs, H', h2, h3, rfl⟩
theorem Jy {C : Cfg} {f : FuncId} {vs : List AV} {F : Func} {H : Hs} {n : Nat} {Q : List AV → Hs → Nat → Prop} (hf : C.fn f = some F) (hb : F.body.isSome = true)
  (h : PAt C (aj F) .o { regs := ini vs, homes := H, next := n } fun ex s => (∀ i, ex ≠ .exit i) ∧ ∃ rs, cF C s F.results.toList = some rs ∧ Q rs s.homes s.next) :
  ∃ rs H1 n1, nW C f vs H n = some (rs, H1, n1) ∧ Q rs H1 n1 := by
 obtain ⟨code, hc⟩ := Option.isSome_iff_exists.1 hb
 have e : aj F = code := by simp [aj, hc]
 rw [e, GD] at h
 obtain ⟨⟨ex, s⟩, h1, h2, rs, h3, h4⟩ := h
 exact ⟨rs, s.homes, s.next, K0 hf hc ⟨(ex, s), h1, h2, h3, rfl, rfl⟩, h4⟩
inductive Item where
  | own (v : AV) (z : Row) (xs : List Dat)
 | box (h : Nat) (cs : List AV)
  | imm (v : AV) (z : Row) (xs : List Dat)
 | mp (h : Nat) (es : List (Dat × Dat))
def Item.live : Item → List Nat
 | .own v _ _ => aH v
 | .box h _ => [h]
 | .imm _ _ _ => []
 | .mp h _ => [h]
def Item.ids : Item → List Nat
 | .own v _ _ => aH v
 | .box h _ => [h]
 | .imm v _ _ => aH v
 | .mp h _ => [h]
def Item.ok (H : Hs) : Item → Prop
 | .own v z xs => (v = .nil ∧ xs = []) ∨ ∃ h ys, v = .sl h 0 xs.length ∧ H h = .own z (xs ++ ys)
 | .box h cs => H h = .box cs
 | .mp h es => H h = .map es
 | .imm v z xs => (v = .nil ∧ xs = []) ∨ ∃ h lo zs, v = .sl h lo (lo + xs.length) ∧ H h = .imm z zs ∧ lo + xs.length ≤ zs.length ∧ win zs lo (lo + xs.length) = xs
structure HP (H : Hs) (n : Nat) (l : List Item) : Prop where
 nd : (l.flatMap Item.live).Nodup
 ok : ∀ it ∈ l, it.ok H
 lt : ∀ it ∈ l, ∀ i ∈ it.ids, i < n
section
variable {H : Hs} {n : Nat} {l : List Item}
theorem HP.nil (H : Hs) (n : Nat) : HP H n [] := ⟨by simp, by simp, by simp⟩
theorem HP.tail {a : Item} (h : HP H n (a :: l)) : HP H n l :=
 ⟨by have := h.nd; rw [List.flatMap_cons, List.nodup_append] at this; exact this.2.1, fun it hi => h.ok it (List.mem_cons_of_mem _ hi), fun it hi => h.lt it (List.mem_cons_of_mem _ hi)⟩
theorem HP.perm {l' : List Item} (h : HP H n l) (hp : l.Perm l') : HP H n l' :=
 ⟨(hp.flatMap_right Item.live).nodup_iff.1 h.nd, fun it hi => h.ok it (hp.mem_iff.2 hi), fun it hi => h.lt it (hp.mem_iff.2 hi)⟩
theorem gp (it : Item) : ∀ i ∈ it.live, i ∈ it.ids := by cases it <;> simp [Item.live, Item.ids]
theorem Item.ok_upd {it : Item} {h : Nat} {X : dq} (ho : it.ok H) (hn : h ∉ it.ids) : it.ok (upd H h X) := by
 cases it with
 | own v z xs =>
  rcases ho with h1 | ⟨k, ys, rfl, h2⟩
  ·exact .inl h1
  ·refine .inr ⟨k, ys, rfl, ?_⟩
   have : k ≠ h := by simpa [Item.ids, aH, eq_comm] using hn
   simp [upd, this, h2]
 | box k cs =>
  have : k ≠ h := by simpa [Item.ids, eq_comm] using hn
  simpa [Item.ok, upd, this] using ho
 | mp k es =>
  have : k ≠ h := by simpa [Item.ids, eq_comm] using hn
  simpa [Item.ok, upd, this] using ho
 | imm v z xs =>
  rcases ho with h1 | ⟨k, lo, zs, rfl, h2, h3⟩
  ·exact .inl h1
  ·refine .inr ⟨k, lo, zs, rfl, ?_, h3⟩
   have : k ≠ h := by simpa [Item.ids, aH, eq_comm] using hn
   simp [upd, this, h2]
theorem HP.apart {a : Item} (h : HP H n (a :: l)) {i : Nat} (hi : i ∈ a.live) : ∀ it ∈ l, i ∉ it.ids := by
 intro it hit hm
 cases it with
 | own v z xs =>
  have := h.nd
  rw [List.flatMap_cons, List.nodup_append] at this
  exact this.2.2 i hi i (List.mem_flatMap.2 ⟨_, hit, hm⟩) rfl
 | box k cs =>
  have := h.nd
  rw [List.flatMap_cons, List.nodup_append] at this
  exact this.2.2 i hi i (List.mem_flatMap.2 ⟨_, hit, hm⟩) rfl
 | mp k es =>
  have := h.nd
  rw [List.flatMap_cons, List.nodup_append] at this
  exact this.2.2 i hi i (List.mem_flatMap.2 ⟨_, hit, hm⟩) rfl
 | imm v z xs =>
  rcases h.ok _ (List.mem_cons_of_mem _ hit) with ⟨rfl, _⟩ | ⟨k, lo, zs, rfl, h2, _⟩
  ·simp [Item.ids, aH] at hm
  ·simp only [Item.ids, aH, List.mem_singleton] at hm
   subst hm
   have ha := h.ok a List.mem_cons_self
   cases a with
   | own v z xs =>
    rcases ha with ⟨rfl, _⟩ | ⟨k, ys, rfl, h3⟩
    ·simp [Item.live, aH] at hi
    ·simp only [Item.live, aH, List.mem_singleton] at hi
     subst hi
     rw [h3] at h2; cases h2
   | box k cs =>
    simp only [Item.live, List.mem_singleton] at hi
    subst hi
    simp only [Item.ok] at ha
    rw [ha] at h2; cases h2
   | mp b es =>
    simp only [Item.live, List.mem_singleton] at hi
    subst hi
    simp only [Item.ok] at ha
    rw [ha] at h2; cases h2
   | imm v z xs => simp [Item.live] at hi
theorem HP.write {a b : Item} {h : Nat} {X : dq} (hH : HP H n (a :: l)) (ha : h ∈ a.live) (hb : b.ids = [h]) (hok : b.ok (upd H h X)) : HP (upd H h X) n (b :: l) := by
 have hap := hH.apart ha
 refine ⟨?_, ?_, ?_⟩
 ·rw [List.flatMap_cons, List.nodup_append]
  refine ⟨?_, hH.tail.nd, ?_⟩
  ·cases b <;> simp_all [Item.live, Item.ids]
  ·intro i hi j hj e
   subst e
   have := gp b i hi
   rw [hb] at this
   simp only [List.mem_singleton] at this
   subst this
   obtain ⟨it, h1, h2⟩ := List.mem_flatMap.1 hj
   exact hap it h1 (gp _ _ h2)
 ·intro it hit
  rcases List.mem_cons.1 hit with rfl | hit
  ·exact hok
  ·exact Item.ok_upd (hH.ok it (List.mem_cons_of_mem _ hit)) (hap it hit)
 ·intro it hit i hi
  rcases List.mem_cons.1 hit with rfl | hit
  ·rw [hb] at hi
   simp only [List.mem_singleton] at hi
   subst hi
   exact hH.lt a List.mem_cons_self _ (gp _ _ ha)
  ·exact hH.lt it (List.mem_cons_of_mem _ hit) i hi
theorem HP.new {b : Item} {X : dq} (hH : HP H n l) (hb : b.ids = [n]) (hok : b.ok (upd H n X)) : HP (upd H n X) (n + 1) (b :: l) := by
 have hap : ∀ it ∈ l, n ∉ it.ids := fun it hit hm => absurd (hH.lt it hit n hm) (Nat.lt_irrefl n)
 refine ⟨?_, ?_, ?_⟩
 ·rw [List.flatMap_cons, List.nodup_append]
  refine ⟨?_, hH.nd, ?_⟩
  ·cases b <;> simp_all [Item.live, Item.ids]
  ·intro i hi j hj e
   subst e
   have := gp b i hi
   rw [hb] at this
   simp only [List.mem_singleton] at this
   subst this
   obtain ⟨it, h1, h2⟩ := List.mem_flatMap.1 hj
   exact hap it h1 (gp _ _ h2)
 ·intro it hit
  rcases List.mem_cons.1 hit with rfl | hit
  ·exact hok
  ·exact Item.ok_upd (hH.ok it hit) (hap it hit)
 ·intro it hit i hi
  rcases List.mem_cons.1 hit with rfl | hit
  ·rw [hb] at hi
   simp only [List.mem_singleton] at hi
   omega
  ·exact Nat.lt_succ_of_lt (hH.lt it hit i hi)
theorem HP.other {a : Item} {h : Nat} {X : dq} (hH : HP H n (a :: l)) (ha : h ∈ a.live) : HP (upd H h X) n l :=
 ⟨hH.tail.nd, fun it hit => Item.ok_upd (hH.ok it (List.mem_cons_of_mem _ hit)) (hH.apart ha it hit), hH.tail.lt⟩
theorem Iv {α : Type} : ∀ (l : List α) (i : Nat) (a : α), l[i]? = some a → l.Perm (a :: l.eraseIdx i) := by
 intro l
 induction l with
 | nil => intro i a h; simp at h
 | cons x xs ih =>
  intro i a h
  cases i with
  | zero => simp only [List.getElem?_cons_zero, Option.some.injEq] at h; subst h; exact List.Perm.refl _
  | succ i =>
   simp only [List.getElem?_cons_succ] at h
   simp only [List.eraseIdx_cons_succ]
   exact ((ih i a h).cons x).trans (List.Perm.swap a x _)
theorem HP.pick (h : HP H n l) (i : Nat) {a : Item} (hi : l[i]? = some a) : HP H n (a :: l.eraseIdx i) := h.perm (Iv l i a hi)
theorem HP.get (h : HP H n l) {i : Nat} {a : Item} (hi : l[i]? = some a) : a.ok H := h.ok a (List.mem_of_getElem? hi)
end
end Go.Jv
