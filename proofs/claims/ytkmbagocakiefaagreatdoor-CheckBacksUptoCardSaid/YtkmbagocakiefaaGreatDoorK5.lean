/- Back: the checker's and the document's give the same plan. -/
import Derived.Test.YtkmbagocakiefaaGreatDoorK4
namespace Go.Proofs.YtkmbagocakiefaaGreatDoor.Wb
open Go Go.Jv
def E4 {α β : Type} (R : α → β → Prop) (a : Option α) (b : Option β) : Prop := ∃ v w, a = some v ∧ b = some w ∧ R v w
theorem rI {σ α β : Type} {n : Nat} {f : σ → Int → Option α} {g : σ → Int → Option β} {I : Nat → σ → Prop} {R : α → β → Prop} (fin : ∀ s, I n s → E4 R (f s (n : Int)) (g s (n : Int)))
  (step : ∀ (i : Nat) s, i < n → I i s → ∃ s', I (i + 1) s' ∧ f s (i : Int) = f s' ((i + 1 : Nat) : Int) ∧ g s (i : Int) = g s' ((i + 1 : Nat) : Int)) : ∀ s, I 0 s → E4 R (f s 0) (g s 0) := by
 have go : ∀ (k i : Nat) s, i + k = n → I i s → E4 R (f s (i : Int)) (g s (i : Int)) := by
  intro k
  induction k with
  | zero => intro i s h hI; obtain rfl : i = n := by omega
            exact fin s hI
  | succ k ih => intro i s h hI; obtain ⟨s', h1, h2, h3⟩ := step i s (by omega) hI; rw [h2, h3]; exact ih (i + 1) s' (by omega) h1
 exact fun s hI => go n 0 s (by omega) hI
def nG {α : Type} (Q : α → Prop) (b : Nat) (i : Nat) (l : List α) : Prop := l.length ≤ b + i ∧ ∀ x, x ∈ l → Q x
theorem nG.snoc {α : Type} {Q : α → Prop} {b i : Nat} {l : List α} {x : α} (h : nG Q b i l) (hx : Q x) : nG Q b (i + 1) (l ++ [x]) := by
 refine ⟨by have := h.1; simp; omega, fun y hy => ?_⟩
 rcases List.mem_append.1 hy with hy | hy
 ·exact h.2 y hy
 ·rw [List.mem_singleton.1 hy]; exact hx
theorem nG.keep {α : Type} {Q : α → Prop} {b i : Nat} {l : List α} (h : nG Q b i l) : nG Q b (i + 1) l := ⟨by have := h.1; omega, h.2⟩
theorem nG.to {α : Type} {Q : α → Prop} {b i b' : Nat} {l : List α} (h : nG Q b i l) (hb : b + i ≤ b') : nG Q b' 0 l := ⟨by have := h.1; omega, h.2⟩
abbrev okX (e : List ae) : Prop := e.length ≤ 2000000
abbrev Ap (l : List ac) : Prop := l.length ≤ 2000000 ∧ ∀ s, s ∈ l → okX s.Expr
structure okZ (s : bn) : Prop where
 g : s.Green.length ≤ 2000000
 e : Ap s.Enter
 d : Ap s.During
 l : Ap s.Leave
 n : s.Nexts.length ≤ 2000000
 w : ∀ x, x ∈ s.Nexts → okX x.When
def okD (d : aV) : Prop := d.Expr.length = 0 ∧ okZ d.Stage
theorem Di {t : ab} {e : List ae} (hk : okE e) (hi : yv t e) : ∃ v, om t e = some v ∧ oE t e = some v ∧ okX v := by
 have hl := hk.1
 have : E4 (fun v w => v = w ∧ okX v) (dZ t [] e e.length 0) (ec e t [] 0) :=
  rI (n := e.length) (f := fun out i => dZ t out e e.length i) (g := fun out i => ec e t out i) (I := fun i out => nG (fun _ => True) 0 i out) (R := fun v w => v = w ∧ okX v)
  (fun out ho => by
   rw [sJ, if_neg (by omega), sP, if_neg (by omega)]
   exact ⟨_, _, rfl, rfl, rfl, by have := ho.1; show _ ≤ _; omega⟩)
  (fun i out hlt ho => by
   have hb := ho.1
   have k3 : ∀ n, eR t out n e e.length i = dZ t (out ++ [n]) e e.length ((i + 1 : Nat) : Int) := fun n => by
    rw [AW, bg (by simp; omega), aa, au (by omega)]
   have q2 : ∀ n, eU e t out i n = ec e t (out ++ [n]) ((i + 1 : Nat) : Int) := fun n => by
    rw [B4, bg (by simp; omega), aa, au (by omega)]
   suffices h : ∃ n, dZ t out e e.length i = dZ t (out ++ [n]) e e.length ((i + 1 : Nat) : Int) ∧ ec e t out i = ec e t (out ++ [n]) ((i + 1 : Nat) : Int) by
    obtain ⟨n, h1, h2⟩ := h
    exact ⟨out ++ [n], ho.snoc trivial, h1, h2⟩
   have hv := hk.2 i hlt
   obtain ⟨hg, hva, hti, hco, hde⟩ := hi i hlt
   rw [sJ, if_pos (by omega), ay hlt, aa, sP, if_pos (show (i : Int) < (e.length : Int) by omega), ay hlt, aa]
   simp only [AU, B3, bh (n := (e[i]).Val) (by omega), k3, q2]
   generalize e[i] = n at *
   by_cases h5 : n.Op = 5
   ·simp only [h5, if_true, if_pos, show ¬ ((5 : Int) = 7) by decide, show ¬ ((5 : Int) = 8) by decide, show ¬ ((5 : Int) = 9) by decide, show ¬ ((5 : Int) = 10) by decide, if_false]
    rw [eX (hg (.inl h5)).1 (hg (.inl h5)).2]; exact ⟨_, rfl, rfl⟩
   by_cases h6 : n.Op = 6
   ·simp only [h6, if_true, if_pos, show ¬ ((6 : Int) = 5) by decide, show ¬ ((6 : Int) = 7) by decide, show ¬ ((6 : Int) = 8) by decide, show ¬ ((6 : Int) = 9) by decide, show ¬ ((6 : Int) = 10) by decide, if_false]
    rw [eX (hg (.inr h6)).1 (hg (.inr h6)).2]; exact ⟨_, rfl, rfl⟩
   simp only [h5, h6, if_false]
   by_cases h7 : n.Op = 7
   ·simp only [h7, if_true]
    rw [eX (hva h7).1 (hva h7).2]; exact ⟨_, rfl, rfl⟩
   by_cases h8 : n.Op = 8
   ·simp only [h8, if_true, show ¬ ((8 : Int) = 7) by decide, if_false]
    rw [eX (hti h8).1 (hti h8).2]; exact ⟨_, rfl, rfl⟩
   by_cases h9 : n.Op = 9
   ·simp only [h9, if_true, show ¬ ((9 : Int) = 7) by decide, show ¬ ((9 : Int) = 8) by decide, if_false]
    rw [eX (hco h9).1 (hco h9).2]; exact ⟨_, rfl, rfl⟩
   by_cases h10 : n.Op = 10
   ·simp only [h10, if_true, show ¬ ((10 : Int) = 7) by decide, show ¬ ((10 : Int) = 8) by decide, show ¬ ((10 : Int) = 9) by decide, if_false]
    rw [eX (hde h10).1 (hde h10).2]; exact ⟨_, rfl, rfl⟩
   simp only [h7, h8, h9, h10, if_false]
   exact ⟨_, rfl, rfl⟩) [] ⟨by simp, by simp⟩
 obtain ⟨v, w, h1, h2, rfl, h3⟩ := this
 exact ⟨v, h1, h2, h3⟩
theorem xf {t : ab} {l : List ac} (hk : okL l) (hi : yw t l) : ∃ v, oq t l = some v ∧ fh t l = some v ∧ Ap v := by
 have hl := hk.1
 have : E4 (fun v w => v = w ∧ Ap v) (eb t [] l l.length 0) (cH l t [] 0) :=
  rI (n := l.length) (f := fun out i => eb t out l l.length i) (g := fun out i => cH l t out i) (I := fun i out => nG (fun s : ac => okX s.Expr) 0 i out) (R := fun v w => v = w ∧ Ap v)
  (fun out ho => by
   rw [sK, if_neg (by omega), oF, if_neg (by omega)]
   exact ⟨_, _, rfl, rfl, rfl, by have := ho.1; omega, ho.2⟩)
  (fun i out hlt ho => by
   have hb := ho.1
   obtain ⟨he, h0, h1⟩ := hi i hlt
   obtain ⟨v, v1, v2, v3⟩ := Di (hk.2 i hlt) he
   have k2 : ∀ K N, eS t out K N 0 v 0 0 l l.length i = eb t (out ++ [⟨K, N, 0, v, ⟨0, 0⟩⟩]) l l.length ((i + 1 : Nat) : Int) := fun K N => by
    rw [AY, bg (by simp; omega), aa, au (by omega)]
   have q2 : ∀ s, dg l t out i s = cH l t (out ++ [s]) ((i + 1 : Nat) : Int) := fun n => by
    rw [wb, bg (by simp; omega), aa, au (by omega)]
   suffices h : ∃ K N, eb t out l l.length i = eb t (out ++ [⟨K, N, 0, v, ⟨0, 0⟩⟩]) l l.length ((i + 1 : Nat) : Int) ∧ cH l t out i = cH l t (out ++ [⟨K, N, 0, v, ⟨0, 0⟩⟩]) ((i + 1 : Nat) : Int) by
    obtain ⟨K, N, h1, h2⟩ := h
    exact ⟨_, ho.snoc (x := ⟨K, N, 0, v, ⟨0, 0⟩⟩) v3, h1, h2⟩
   rw [sK, if_pos (by omega), ay hlt, aa, v1, aa, oF, if_pos (show (i : Int) < (l.length : Int) by omega), ay hlt, aa, aa, v2, aa]
   simp only [AX, wa, ay hlt, aa, k2, q2]
   unfold fU at h1
   generalize l[i] = s at *
   by_cases c1 : s.Kind = 1
   ·simp only [c1, if_true] at h1 ⊢
    rw [eX h0 h1]; exact ⟨_, _, rfl, rfl⟩
   by_cases c2 : s.Kind = 2
   ·simp [c2] at h1 ⊢
    rw [eX h0 h1]; exact ⟨_, _, rfl, rfl⟩
   by_cases c3 : s.Kind = 3
   ·simp [c3] at h1 ⊢
    rw [eX h0 h1]; exact ⟨_, _, rfl, rfl⟩
   by_cases c4 : s.Kind = 4
   ·simp [c4] at h1 ⊢
    rw [eX h0 h1]; exact ⟨_, _, rfl, rfl⟩
   by_cases c5 : s.Kind = 5
   ·simp [c5] at h1 ⊢
    rw [eX h0 h1]; exact ⟨_, _, rfl, rfl⟩
   by_cases c10 : s.Kind = 10
   ·simp [c10] at h1 ⊢
    rw [eX h0 h1]; exact ⟨_, _, rfl, rfl⟩
   by_cases c6 : s.Kind = 6
   ·simp [c6] at h1 ⊢
    rw [eX h0 h1]; exact ⟨_, _, rfl, rfl⟩
   simp only [c1, c2, c3, c4, c5, c6, c10, if_false]
   exact ⟨_, _, rfl, rfl⟩) [] ⟨by simp, by simp⟩
 obtain ⟨v, w, h1, h2, rfl, h3⟩ := this
 exact ⟨v, h1, h2, h3⟩
theorem H0 {t : ab} {s : ah} (hn : okN t) (hg : okG s) (hi : zl t s) : ∃ v : bn, pM t s = some (v.Green, v.Enter, v.During, v.Leave, v.Nexts) ∧ kM t s = some v ∧ okZ v := by
 have hgl := hn.g
 have hnl := hg.n
 obtain ⟨i1, i2, i3, i4⟩ := hi
 obtain ⟨e, e1, e2, e3⟩ := xf hg.e i1
 obtain ⟨d, d1, d2, d3⟩ := xf hg.d i2
 obtain ⟨l, l1, l2, l3⟩ := xf hg.l i3
 unfold pM kM
 rw [e1, d1, l1]
 simp only [aa]
 have : E4 (fun v w => v = (w.Green, w.Enter, w.During, w.Leave, w.Nexts) ∧ okZ w) (ff t s [] e d l t.Tables.Groups t.Tables.Groups.length 0) (dt t s [] 0) :=
  rI (n := t.Tables.Groups.length) (f := fun out i => ff t s out e d l t.Tables.Groups t.Tables.Groups.length i) (g := fun out i => dt t s out i) (I := fun i out => nG (fun _ => True) 0 i out)
   (R := fun v w => v = (w.Green, w.Enter, w.During, w.Leave, w.Nexts) ∧ okZ w)
  (fun out ho => by
   have hb := ho.1
   rw [qW, if_neg (by omega), nE, if_neg (by omega), e2, d2, l2]
   simp only [aa]
   exact rI (n := s.Nexts.length) (f := fun N i => eh t out e d l N s.Nexts s.Nexts.length i) (g := fun N i => cR t s out e d l N i) (I := fun i N => nG (fun x : da => okX x.When) 0 i N)
    (R := fun v w => v = (w.Green, w.Enter, w.During, w.Leave, w.Nexts) ∧ okZ w)
    (fun N hN => by
     have hc := hN.1
     rw [eh, if_neg (by omega), cR, if_neg (by omega)]
     exact ⟨_, _, rfl, rfl, rfl, by show out.length ≤ _; omega, e3, d3, l3, by show N.length ≤ _; omega, hN.2⟩)
    (fun i N hlt hN => by
     have hc := hN.1
     obtain ⟨j1, j2, j3⟩ := i4 i hlt
     obtain ⟨v, v1, v2, v3⟩ := Di (hg.w i hlt) j3
     refine ⟨N ++ [⟨(t.Stages[(s.Nexts[i]).To.toNat]'(by omega)).Name, v, ⟨0, 0⟩⟩], hN.snoc v3, ?_, ?_⟩
     ·rw [eh, if_pos (by omega), ay hlt, aa, eX j1 j2, aa, v1, aa, bg (by simp; omega), aa, au (by omega)]
     ·rw [cR, if_pos (by omega), ay hlt, aa, eX j1 j2, aa, aa, v2, aa, bg (by simp; omega), aa, au (by omega)]) [] ⟨by simp, by simp⟩)
  (fun i out hlt ho => by
   have hb := ho.1
   have k2 : ∀ out, jB t s out e d l t.Tables.Groups t.Tables.Groups.length i = ff t s out e d l t.Tables.Groups t.Tables.Groups.length ((i + 1 : Nat) : Int) := fun n => by
    rw [zV, au (by omega)]
   have q2 : ∀ out, gI t s out i = dt t s out ((i + 1 : Nat) : Int) := fun n => by
    rw [vg, au (by omega)]
   obtain ⟨sh, hs⟩ := Ff .u64 s.Green i
   rw [qW, if_pos (by omega), ay hlt, aa, hs, aa, nE, if_pos (show (i : Int) < (t.Tables.Groups.length : Int) by omega), hs, aa]
   by_cases hc : EI .u64 sh 1 = 1
   ·rw [if_pos hc, if_pos hc, ay hlt, aa, bg (by simp; omega), aa, aa, k2, q2]
    exact ⟨_, ho.snoc trivial, rfl, rfl⟩
   ·rw [if_neg hc, if_neg hc, k2, q2]
    exact ⟨_, ho.keep, rfl, rfl⟩) [] ⟨by simp, by simp⟩
 obtain ⟨v, w, h1, h2, rfl, h3⟩ := this
 exact ⟨w, h1, h2, h3⟩
end Go.Proofs.YtkmbagocakiefaaGreatDoor.Wb
namespace Go.Proofs.YtkmbagocakiefaaGreatDoor.Wb
open Go Go.Jv
def Hq (p : aW) : Prop := p.Decls.length ≤ 100000000 ∧ ∀ d, d ∈ p.Decls → okD d
abbrev RP (v w : aW × Int) : Prop := v = w ∧ Hq v.1
abbrev noZ : bn := ⟨[], [], [], [], []⟩
theorem AG : okZ noZ := ⟨by simp, ⟨by simp, by simp⟩, ⟨by simp, by simp⟩, ⟨by simp, by simp⟩, by simp, by simp⟩
theorem pX {Ds : List aV} (h : Ds.length ≤ 100000000) (K a b : Int) (N W : ByteArray) (S x y z : Int) (G : List ByteArray) (E D L : List ac) (X : List da) (Nm : ByteArray) :
  fR K a b N W S x y z G E D L X Nm Ds = some (Nm, Ds ++ [⟨K, ⟨a, b⟩, N, W, S, ⟨x, y, z⟩, [], ⟨G, E, D, L, X⟩⟩]) := by
 unfold fR
 rw [bg (by simp; omega), aa]
abbrev Gd (b i : Nat) (l : List aV) : Prop := nG okD b i l
section
variable {t : ab} (hn : okN t) (hp : okP t) (hf : Mj t) (nm nm' Nm : ByteArray)
include hn hp hf
theorem b9 (Ds : List aV) (h : Gd 12000000 0 Ds) : E4 RP (gA t nm Nm Ds t.Stages t.Stages.length 0) (fH t nm' Nm Ds 0) := by
 have hs := hn.s
 have hb := hf.b
 refine rI (n := t.Stages.length) (f := fun D i => gA t nm Nm D t.Stages t.Stages.length i) (g := fun D i => fH t nm' Nm D i) (I := fun i D => Gd 12000000 i D) ?_ ?_ Ds h
 ·intro D hD
  have h1 := hD.1
  show E4 RP (gA t nm Nm D t.Stages t.Stages.length (t.Stages.length : Nat)) (fH t nm' Nm D (t.Stages.length : Nat))
  rw [gA, if_neg (by omega), fH, if_neg (by omega), eX hb.1 hb.2, aa, aa, pX (by omega), aa, bg (by simp; omega), aa]
  refine ⟨_, _, rfl, rfl, rfl, by simp; omega, fun d hd => ?_⟩
  exact (hD.snoc (x := ⟨10, ⟨0, 0⟩, _, ⟨#[]⟩, 0, ⟨0, 0, 0⟩, [], noZ⟩) ⟨rfl, AG⟩).2 d hd
 ·intro i D hi hD
  have h1 := hD.1
  obtain ⟨v, v1, v2, v3⟩ := H0 hn (hp i hi) (hf.s i hi)
  refine ⟨D ++ [⟨9, ⟨0, 0⟩, (t.Stages[i]).Name, ⟨#[]⟩, 0, ⟨0, 0, 0⟩, [], v⟩], hD.snoc ⟨rfl, v3⟩, ?_, ?_⟩
  ·show gA t nm Nm D t.Stages t.Stages.length (i : Nat) = _
   rw [gA, if_pos (by omega), ay hi, aa, v1, aa, pX (by omega), aa, au (by omega)]
  ·show fH t nm' Nm D (i : Nat) = _
   rw [fH, if_pos (by omega), ay hi, aa, aa, v2, aa, bg (by simp; omega), aa, au (by omega)]
theorem b8 (Ds : List aV) (h : Gd 10000000 0 Ds) : E4 RP (gB t nm Nm Ds t.Vars t.Vars.length 0) (fI t nm' Nm Ds 0) := by
 have hs := hn.v
 refine rI (n := t.Vars.length) (f := fun D i => gB t nm Nm D t.Vars t.Vars.length i) (g := fun D i => fI t nm' Nm D i) (I := fun i D => Gd 10000000 i D) ?_ ?_ Ds h
 ·intro D hD
  show E4 RP (gB t nm Nm D t.Vars t.Vars.length (t.Vars.length : Nat)) (fI t nm' Nm D (t.Vars.length : Nat))
  rw [gB, if_neg (by omega), fI, if_neg (by omega)]
  exact b9 hn hp hf nm nm' Nm D (hD.to (by omega))
 ·intro i D hi hD
  have h1 := hD.1
  refine ⟨D ++ [⟨7, ⟨0, 0⟩, (t.Vars[i]).Name, ⟨#[]⟩, 0, ⟨(t.Vars[i]).Init, 0, 0⟩, [], noZ⟩], hD.snoc ⟨rfl, AG⟩, ?_, ?_⟩
  ·show gB t nm Nm D t.Vars t.Vars.length (i : Nat) = _
   rw [gB, if_pos (by omega), ay hi, aa, pX (by omega), aa, au (by omega)]
  ·show fI t nm' Nm D (i : Nat) = _
   rw [fI, if_pos (by omega), ay hi, aa, aa, bg (by simp; omega), aa, au (by omega)]
theorem b7 (Ds : List aV) (h : Gd 8000000 0 Ds) : E4 RP (gC t nm Nm Ds t.Counters t.Counters.length 0) (fJ t nm' Nm Ds 0) := by
 have hs := hn.co
 refine rI (n := t.Counters.length) (f := fun D i => gC t nm Nm D t.Counters t.Counters.length i) (g := fun D i => fJ t nm' Nm D i) (I := fun i D => Gd 8000000 i D) ?_ ?_ Ds h
 ·intro D hD
  show E4 RP (gC t nm Nm D t.Counters t.Counters.length (t.Counters.length : Nat)) (fJ t nm' Nm D (t.Counters.length : Nat))
  rw [gC, if_neg (by omega), fJ, if_neg (by omega)]
  exact b8 hn hp hf nm nm' Nm D (hD.to (by omega))
 ·intro i D hi hD
  have h1 := hD.1
  refine ⟨D ++ [⟨6, ⟨0, 0⟩, t.Counters[i], ⟨#[]⟩, 0, ⟨0, 0, 0⟩, [], noZ⟩], hD.snoc ⟨rfl, AG⟩, ?_, ?_⟩
  ·show gC t nm Nm D t.Counters t.Counters.length (i : Nat) = _
   rw [gC, if_pos (by omega), ay hi, aa, pX (by omega), aa, au (by omega)]
  ·show fJ t nm' Nm D (i : Nat) = _
   rw [fJ, if_pos (by omega), ay hi, aa, bg (by simp; omega), aa, au (by omega)]
theorem b6 (Ds : List aV) (h : Gd 6000000 0 Ds) : E4 RP (fS t nm Nm Ds t.Timers t.Timers.length 0) (eW t nm' Nm Ds 0) := by
 have hs := hn.ti
 refine rI (n := t.Timers.length) (f := fun D i => fS t nm Nm D t.Timers t.Timers.length i) (g := fun D i => eW t nm' Nm D i) (I := fun i D => Gd 6000000 i D) ?_ ?_ Ds h
 ·intro D hD
  show E4 RP (fS t nm Nm D t.Timers t.Timers.length (t.Timers.length : Nat)) (eW t nm' Nm D (t.Timers.length : Nat))
  rw [fS, if_neg (by omega), eW, if_neg (by omega)]
  exact b7 hn hp hf nm nm' Nm D (hD.to (by omega))
 ·intro i D hi hD
  have h1 := hD.1
  refine ⟨D ++ [⟨5, ⟨0, 0⟩, t.Timers[i], ⟨#[]⟩, 0, ⟨0, 0, 0⟩, [], noZ⟩], hD.snoc ⟨rfl, AG⟩, ?_, ?_⟩
  ·show fS t nm Nm D t.Timers t.Timers.length (i : Nat) = _
   rw [fS, if_pos (by omega), ay hi, aa, pX (by omega), aa, au (by omega)]
  ·show eW t nm' Nm D (i : Nat) = _
   rw [eW, if_pos (by omega), ay hi, aa, bg (by simp; omega), aa, au (by omega)]
theorem b4 (Ds : List aV) (h : Gd 4000000 0 Ds) : E4 RP (ia t nm Nm Ds t.Dets t.Dets.length 0) (gj t nm' Nm Ds 0) := by
 have hs := hn.d
 refine rI (n := t.Dets.length) (f := fun D i => ia t nm Nm D t.Dets t.Dets.length i) (g := fun D i => gj t nm' Nm D i) (I := fun i D => Gd 4000000 i D) ?_ ?_ Ds h
 ·intro D hD
  show E4 RP (ia t nm Nm D t.Dets t.Dets.length (t.Dets.length : Nat)) (gj t nm' Nm D (t.Dets.length : Nat))
  rw [yO, if_neg (by omega), wI, if_neg (by omega)]
  exact b6 hn hp hf nm nm' Nm D (hD.to (by omega))
 ·intro i D hi hD
  have h1 := hD.1
  have k : ∀ S, nB t nm Nm D 4 0 0 (t.Dets[i]).Name ⟨#[]⟩ S (IntKind.i32.wrap (t.Dets[i]).Delay) (IntKind.i32.wrap (t.Dets[i]).Hold) 0 t.Dets t.Dets.length i =
    ia t nm Nm (D ++ [⟨4, ⟨0, 0⟩, (t.Dets[i]).Name, ⟨#[]⟩, S, ⟨IntKind.i32.wrap (t.Dets[i]).Delay, IntKind.i32.wrap (t.Dets[i]).Hold, 0⟩, [], noZ⟩]) t.Dets t.Dets.length ((i + 1 : Nat) : Int) := fun S => by
   rw [FQ, pX (by omega), aa, au (by omega)]
  have q : ∀ S, lK t nm' Nm D i 4 0 0 (t.Dets[i]).Name ⟨#[]⟩ S (IntKind.i32.wrap (t.Dets[i]).Delay) (IntKind.i32.wrap (t.Dets[i]).Hold) 0 =
    gj t nm' Nm (D ++ [⟨4, ⟨0, 0⟩, (t.Dets[i]).Name, ⟨#[]⟩, S, ⟨IntKind.i32.wrap (t.Dets[i]).Delay, IntKind.i32.wrap (t.Dets[i]).Hold, 0⟩, [], noZ⟩]) ((i + 1 : Nat) : Int) := fun S => by
   rw [Ej, bg (by simp; omega), aa, au (by omega)]
  suffices hh : ∃ S, ia t nm Nm D t.Dets t.Dets.length (i : Nat) = nB t nm Nm D 4 0 0 (t.Dets[i]).Name ⟨#[]⟩ S (IntKind.i32.wrap (t.Dets[i]).Delay) (IntKind.i32.wrap (t.Dets[i]).Hold) 0 t.Dets t.Dets.length i ∧
    gj t nm' Nm D (i : Nat) = lK t nm' Nm D i 4 0 0 (t.Dets[i]).Name ⟨#[]⟩ S (IntKind.i32.wrap (t.Dets[i]).Delay) (IntKind.i32.wrap (t.Dets[i]).Hold) 0 by
   obtain ⟨S, h1, h2⟩ := hh
   exact ⟨_, hD.snoc (x := ⟨4, ⟨0, 0⟩, (t.Dets[i]).Name, ⟨#[]⟩, S, ⟨IntKind.i32.wrap (t.Dets[i]).Delay, IntKind.i32.wrap (t.Dets[i]).Hold, 0⟩, [], noZ⟩) ⟨rfl, AG⟩, h1.trans (k S), h2.trans (q S)⟩
  rw [yO, if_pos (by omega), ay hi, aa, wI, if_pos (show (i : Int) < (t.Dets.length : Int) by omega), ay hi]
  simp only [aa]
  by_cases hc : (t.Dets[i]).Latch = true
  ·rw [if_pos hc, if_pos hc]; exact ⟨1, rfl, rfl⟩
  ·rw [if_neg hc, if_neg hc]; exact ⟨0, rfl, rfl⟩
theorem b3 (Ds : List aV) (h : Gd 2000000 0 Ds) : E4 RP (gD t nm Nm Ds t.Tables.Conflicts t.Tables.Conflicts.length 0) (fK t nm' Nm Ds t.Tables.Groups 0) := by
 have hs := hn.c
 refine rI (n := t.Tables.Conflicts.length) (f := fun D i => gD t nm Nm D t.Tables.Conflicts t.Tables.Conflicts.length i) (g := fun D i => fK t nm' Nm D t.Tables.Groups i) (I := fun i D => Gd 2000000 i D) ?_ ?_ Ds h
 ·intro D hD
  show E4 RP (gD t nm Nm D t.Tables.Conflicts t.Tables.Conflicts.length (t.Tables.Conflicts.length : Nat)) (fK t nm' Nm D t.Tables.Groups (t.Tables.Conflicts.length : Nat))
  rw [gD, if_neg (by omega), fK, if_neg (by omega)]
  exact b4 hn hp hf nm nm' Nm D (hD.to (by omega))
 ·intro i D hi hD
  have h1 := hD.1
  obtain ⟨⟨a1, a2⟩, a3, a4⟩ := hf.c i hi
  refine ⟨D ++ [⟨3, ⟨0, 0⟩, (t.Tables.Groups[(t.Tables.Conflicts[i]).A.toNat]'(by omega)).Name, (t.Tables.Groups[(t.Tables.Conflicts[i]).B.toNat]'(by omega)).Name, 0, ⟨IntKind.i32.wrap (t.Tables.Conflicts[i]).AB, IntKind.i32.wrap (t.Tables.Conflicts[i]).BA, 0⟩, [], noZ⟩], hD.snoc ⟨rfl, AG⟩, ?_, ?_⟩
  ·show gD t nm Nm D t.Tables.Conflicts t.Tables.Conflicts.length (i : Nat) = _
   rw [gD, if_pos (by omega), ay hi, aa, eX a1 a2, aa, eX a3 a4, aa, pX (by omega), aa, au (by omega)]
  ·show fK t nm' Nm D t.Tables.Groups (i : Nat) = _
   rw [fK, if_pos (by omega), ay hi, aa, eX a1 a2, aa, eX a3 a4, aa, bg (by simp; omega), aa, au (by omega)]
theorem b1 : E4 RP (gE t nm Nm [] t.Tables.Groups t.Tables.Groups.length 0) (fL t nm' Nm [] t.Tables.Groups 0) := by
 have hs := hn.g
 refine rI (n := t.Tables.Groups.length) (f := fun D i => gE t nm Nm D t.Tables.Groups t.Tables.Groups.length i) (g := fun D i => fL t nm' Nm D t.Tables.Groups i) (I := fun i D => Gd 0 i D) ?_ ?_ [] ⟨by simp, by simp⟩
 ·intro D hD
  show E4 RP (gE t nm Nm D t.Tables.Groups t.Tables.Groups.length (t.Tables.Groups.length : Nat)) (fL t nm' Nm D t.Tables.Groups (t.Tables.Groups.length : Nat))
  rw [gE, if_neg (by omega), fL, if_neg (by omega)]
  exact b3 hn hp hf nm nm' Nm D (hD.to (by omega))
 ·intro i D hi hD
  have h1 := hD.1
  refine ⟨D ++ [⟨2, ⟨0, 0⟩, (t.Tables.Groups[i]).Name, ⟨#[]⟩, (t.Tables.Groups[i]).Sort_, ⟨IntKind.i32.wrap (t.Tables.Groups[i]).Min, IntKind.i32.wrap (t.Tables.Groups[i]).Amber, IntKind.i32.wrap (t.Tables.Groups[i]).Lead⟩, [], noZ⟩], hD.snoc ⟨rfl, AG⟩, ?_, ?_⟩
  ·show gE t nm Nm D t.Tables.Groups t.Tables.Groups.length (i : Nat) = _
   rw [gE, if_pos (by omega), ay hi, aa, pX (by omega), aa, au (by omega)]
  ·show fL t nm' Nm D t.Tables.Groups (i : Nat) = _
   rw [fL, if_pos (by omega), ay hi, aa, aa, aa, aa, aa, bg (by simp; omega), aa, au (by omega)]
end
theorem Fc (e : List ae) (hl : e.length ≤ 2000000) : ∃ b, rF e = some b ∧ sO e = some (!b) := by
 have : E4 (fun v w => w = !v) (jW e e.length 0) (jo e 0) := by
  have go : ∀ (k i : Nat), i + k = e.length → E4 (fun v w => w = !v) (jW e e.length i) (jo e i) := by
   intro k
   induction k with
   | zero => intro i h; rw [wD, if_neg (by omega), vf, if_neg (by omega)]; exact ⟨_, _, rfl, rfl, rfl⟩
   | succ k ih =>
    intro i h
    have hi : i < e.length := by omega
    have h2 := ih (i + 1) (by omega)
    rw [wD, if_pos (by omega), ay hi, aa, vf, if_pos (show (i : Int) < (e.length : Int) by omega), ay hi, aa]
    simp only [Ec, Dg, au (show i < 4611686018427387904 by omega), ay hi, aa]
    by_cases h1 : (e[i]).Op = 1
    ·simp only [h1, if_true]
     by_cases h3 : (e[i]).Val < 0
     ·simp only [h3, if_true]; exact ⟨_, _, rfl, rfl, rfl⟩
     ·simp only [h3, if_false]; exact h2
    ·simp only [h1, if_false]; exact h2
  exact go e.length 0 (by omega)
 obtain ⟨v, w, h1, h2, h3⟩ := this
 exact ⟨v, h1, h3 ▸ h2⟩
end Go.Proofs.YtkmbagocakiefaaGreatDoor.Wb
namespace Go.Proofs.YtkmbagocakiefaaGreatDoor.Wb
open Go Go.Jv
theorem FD (l : List ac) (hl : okL l) : ∃ b, gH l = some b ∧ ∀ s (S : List ah) (n i : Int) A j, iM s S n i A j l l.length 0 = if b = true then iL s S n i A (w64 (j + 1)) else some false := by
 have h1 := hl.1
 have go : ∀ (k q : Nat), q + k = l.length → ∃ b, eu l q = some b ∧ ∀ s (S : List ah) (n i : Int) A j, iM s S n i A j l l.length q = if b = true then iL s S n i A (w64 (j + 1)) else some false := by
  intro k
  induction k with
  | zero =>
   intro q h
   refine ⟨true, ?_, fun s S n i A j => ?_⟩
   ·rw [eu, if_neg (by omega)]
   ·rw [sH, if_neg (by omega)]; rfl
  | succ k ih =>
   intro q h
   have hq : q < l.length := by omega
   obtain ⟨b, b1, b2⟩ := Fc (l[q]).Expr (hl.2 q hq).1
   obtain ⟨c, c1, c2⟩ := ih (q + 1) (by omega)
   refine ⟨!b && c, ?_, fun s S n i A j => ?_⟩
   ·rw [eu, if_pos (by omega), ay hq, aa, b2, aa, au (by omega), c1]
    cases b <;> simp
   ·rw [sH, if_pos (by omega), ay hq, aa, b1, aa, au (by omega), c2]
    cases b <;> simp
 exact go l.length 0 (by omega)
abbrev Es (a b : Option Bool) : Prop := E4 (fun v w => v = w) a b
theorem J3 (t : ab) (hn : okN t) (hp : okP t) : Es (vY t) (uo t) := by
 have hv := hn.v
 have hs := hn.s
 have stages : ∀ (k i : Nat), i + k = t.Stages.length → Es (iK t.Stages t.Stages.length i) (il t i) := by
  intro k
  induction k with
  | zero => intro i h; rw [sG, if_neg (by omega), qZ, if_neg (by omega)]; exact ⟨_, _, rfl, rfl, rfl⟩
  | succ k ih =>
   intro i h
   have hi : i < t.Stages.length := by omega
   have hnext := ih (i + 1) (by omega)
   have hg := hp i hi
   rw [sG, if_pos (by omega), ay hi, aa, qZ, if_pos (show (i : Int) < (t.Stages.length : Int) by omega), ay hi, aa]
   generalize t.Stages[i] = s at *
   obtain ⟨b, b1, b2⟩ := FD s.Enter hg.e
   obtain ⟨c, c1, c2⟩ := FD s.During hg.d
   obtain ⟨d, d1, d2⟩ := FD s.Leave hg.l
   have hnl := hg.n
   have nexts : ∀ (k j : Nat), j + k = s.Nexts.length → Es (ks t.Stages t.Stages.length i s.Nexts s.Nexts.length j) (jI t i s j) := by
    intro k
    induction k with
    | zero => intro j h; rw [sI, if_neg (by omega), ra, if_neg (by omega), au (by omega)]; exact hnext
    | succ k ihn =>
     intro j h
     have hj : j < s.Nexts.length := by omega
     obtain ⟨x, x1, x2⟩ := Fc (s.Nexts[j]).When (hg.w j hj).1
     rw [sI, if_pos (by omega), ay hj, aa, x1, aa, ra, if_pos (show (j : Int) < (s.Nexts.length : Int) by omega), ay hj, aa, x2, aa, au (by omega)]
     have := ihn (j + 1) (by omega)
     cases x with
     | true => exact ⟨false, false, rfl, rfl, rfl⟩
     | false => exact this
   by_cases hid : s.Id = i
   case neg => rw [if_neg hid, if_neg hid]; exact ⟨_, _, rfl, rfl, rfl⟩
   rw [if_pos hid, if_pos hid, b1, aa]
   rw [jX, if_pos (by omega)]
   simp only [c1, d1, aa]
   rw [show A3.get (⟨s.Enter, s.During, s.Leave⟩ : A3 (List ac)) 0 = some s.Enter from rfl, aa, b2]
   cases b
   ·exact ⟨false, false, rfl, rfl, rfl⟩
   rw [if_pos rfl, if_pos rfl, bh (by omega), jX, if_pos (by omega), show A3.get (⟨s.Enter, s.During, s.Leave⟩ : A3 (List ac)) (0 + 1) = some s.During from rfl, aa, c2]
   cases c
   ·exact ⟨false, false, rfl, rfl, rfl⟩
   rw [if_pos rfl, if_pos rfl, bh (by omega), jX, if_pos (by omega), show A3.get (⟨s.Enter, s.During, s.Leave⟩ : A3 (List ac)) (0 + 1 + 1) = some s.Leave from rfl, aa, d2]
   cases d
   ·exact ⟨false, false, rfl, rfl, rfl⟩
   rw [if_pos rfl, if_pos rfl, bh (by omega), jX, if_neg (by omega)]
   exact nexts s.Nexts.length 0 (by omega)
 have vars : ∀ (k i : Nat), i + k = t.Vars.length → Es (fQ t t.Vars t.Vars.length i) (fg t i) := by
  intro k
  induction k with
  | zero => intro i h; rw [fQ, if_neg (by omega), fg, if_neg (by omega)]; exact stages t.Stages.length 0 (by omega)
  | succ k ih =>
   intro i h
   have hi : i < t.Vars.length := by omega
   have hnext := ih (i + 1) (by omega)
   rw [fQ, if_pos (by omega), ay hi, aa, fg, if_pos (show (i : Int) < (t.Vars.length : Int) by omega), ay hi, aa, au (by omega)]
   by_cases hc : (t.Vars[i]).Init = -2147483648
   ·rw [if_pos hc, if_pos hc]; exact ⟨_, _, rfl, rfl, rfl⟩
   ·rw [if_neg hc, if_neg hc]; exact hnext
 exact vars t.Vars.length 0 (by omega)
theorem OH (t : ab) (hn : okN t) (hp : okP t) (hw : okW t) : ∃ v, Cq t = some v ∧ zt t = some v ∧ Hq v.1 := by
 obtain ⟨s, s1, s2⟩ := Lq t hn hp hw
 unfold Cq zt
 rw [s1, s2, aa, aa]
 have no : ∃ v : aW × Int, tL ⟨#[]⟩ = some v ∧ ry ⟨#[]⟩ = some v ∧ Hq v.1 := ⟨_, rfl, rfl, by simp, by simp⟩
 cases s with
 | false => exact no
 | true =>
  rw [if_pos rfl, if_pos rfl]
  obtain ⟨w, _, w1, w2, rfl⟩ := J3 t hn hp
  rw [w1, w2, aa, aa]
  cases w with
  | false => exact no
  | true =>
   rw [if_pos rfl, if_pos rfl]
   obtain ⟨v, _, h1, h2, rfl, h3⟩ := b1 hn hp (I7 hn hp s1) ⟨#[]⟩ ⟨#[]⟩ t.Name
   exact ⟨v, h1, h2, h3⟩
theorem ui (l : List ac) (hl : Ap l) : dW l l = some true := by
 have h1 := hl.1
 unfold dW
 rw [if_pos rfl]
 refine dh l.length (cS l l) _ ?_ fun i hi => ?_
 ·rw [cS, if_neg (by omega)]
 ·have := hl.2 _ (List.getElem_mem hi)
  rw [cS, if_pos (by omega), ay hi, au (by omega)]
  simp only [aa, nF _ (Nat.le_trans this (by omega))]; simp
theorem Gt (s : bn) (h : okZ s) : oG s s = some true := by
 obtain ⟨hg, he, hd, hl, hn, hw⟩ := h
 unfold oG
 rw [rH _ (by omega), aa, if_pos rfl, if_pos rfl]
 refine dh s.Nexts.length (ey s s) _ ?_ fun i hi => ?_
 ·rw [ey, if_neg (by omega), ui _ he, aa, if_pos rfl, ui _ hd, aa, if_pos rfl, ui _ hl, aa]
 ·have := hw _ (List.getElem_mem hi)
  rw [ey, if_pos (by omega), ay hi, au (by omega)]
  simp only [aa, nF _ (Nat.le_trans this (by omega))]; simp
theorem J4 (p : aW) (h : Hq p) : pS p p = some true := by
 obtain ⟨h1, h2⟩ := h
 unfold pS
 rw [if_pos rfl, if_pos rfl]
 refine dh p.Decls.length (fi p p) _ ?_ fun i hi => ?_
 ·rw [fi, if_neg (by omega)]
 ·obtain ⟨h3, h4⟩ := h2 _ (List.getElem_mem hi)
  rw [fi, if_pos (by omega), ay hi, au (by omega)]
  simp only [aa, nF _ (show (p.Decls[i]).Expr.length ≤ 1000000000000 by omega), Gt _ h4]; simp
theorem law (t : ab) (h : okN t) (hp : okP t) (hr : okR t) (hw : okW t) : mP t = some true := by
 obtain ⟨n, st, tn, g1, g2, g3, g4, g5, g6, g7⟩ := GW t h hp hr
 obtain ⟨v, v1, v2, v3⟩ := OH t h hp hw
 unfold mP
 rw [g1, aa]
 simp only [v1, v2, aa, GY t h hp, J4 _ v3, if_true]
 obtain ⟨hg, hc, hd, hti, hco, hv, hs⟩ := h
 rw [whole _ _ _ _ _ _ _ _ _ g2 g3 g4 (.one (by omega)) (.one (by omega)) (.one (by omega)) (.one (by omega)) (.one (by omega)) ((Mks.one (by omega)).snoc (by omega)) (by omega) (by omega) (by omega) (by simp) (by simp) (by simp) (by simp) (by simp) (by simp), aa]
end Go.Proofs.YtkmbagocakiefaaGreatDoor.Wb
