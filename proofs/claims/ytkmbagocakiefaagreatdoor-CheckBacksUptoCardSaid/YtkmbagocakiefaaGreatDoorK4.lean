/- Room: what is lZ in is as it was, with its marks behind it. -/
import Derived.Test.YtkmbagocakiefaaGreatDoorK3
namespace Go.Proofs.YtkmbagocakiefaaGreatDoor.Wb
open Go Go.Jv
theorem dh {β : Type} (n : Nat) (f : Int → β) (fin : β) (hstop : f (n : Int) = fin) (hstep : ∀ (i : Nat), i < n → f i = f ((i + 1 : Nat) : Int)) : f 0 = fin := by
 have go : ∀ k i, i + k = n → f (i : Nat) = fin := by
  intro k
  induction k with
  | zero => intro i h; have : i = n := by omega
            subst this; exact hstop
  | succ k ih => intro i h; rw [hstep i (by omega)]; exact ih (i + 1) (by omega)
 exact go n 0 (by omega)
def Mk {α : Type} (m : α) (x : List α) : Prop := ∃ e, x = e ++ [m, m] ∧ e.length ≤ 1000000000000
def Mks {α : Type} (m : α) (l : List (List α)) : Prop := ∀ x, x ∈ l → Mk m x
theorem Mks.nil {α : Type} {m : α} : Mks m [] := fun _ h => absurd h List.not_mem_nil
theorem Mks.snoc {α : Type} {m : α} {l : List (List α)} {e : List α} (h : Mks m l) (he : e.length ≤ 1000000000000) : Mks m (l ++ [e ++ [m, m]]) := fun x hx => by
 rcases List.mem_append.mp hx with hx | hx
 ·exact h x hx
 ·exact ⟨e, List.mem_singleton.mp hx, he⟩
theorem Mks.one {α : Type} {m : α} {e : List α} (he : e.length ≤ 1000000000000) : Mks m [e ++ [m, m]] := fun x hx => ⟨e, List.mem_singleton.mp hx, he⟩
theorem Mk.at2 {α : Type} {m : α} {x : List α} (h : Mk m x) : idx x (w64 ((x.length : Int) - 2)) = some m := by
 obtain ⟨e, rfl, he⟩ := h
 rw [bh (by simp; omega), show ((e ++ [m, m]).length : Int) - 2 = ((e.length : Nat) : Int) by simp, ay (by simp)]; simp
theorem Mk.at1 {α : Type} {m : α} {x : List α} (h : Mk m x) : idx x (w64 ((x.length : Int) - 1)) = some m := by
 obtain ⟨e, rfl, he⟩ := h
 rw [bh (by simp; omega), show ((e ++ [m, m]).length : Int) - 1 = ((e.length + 1 : Nat) : Int) by simp; omega, ay (by simp)]; simp
abbrev mN : ae := ⟨4444, 0, ⟨#[]⟩, (⟨0, 0⟩ : bd)⟩
abbrev mS : ac := ⟨4444, ⟨#[]⟩, 0, [], (⟨0, 0⟩ : bd)⟩
abbrev mT : aw := ⟨4444, []⟩
abbrev mG : ak := ⟨⟨#[]⟩, 0, 4444, 0, 0⟩
abbrev mC : ai := ⟨4444, 0, 0, 0⟩
abbrev mD : aE := ⟨⟨#[]⟩, false, 4444, 0⟩
abbrev mV : aN := ⟨⟨#[]⟩, 4444⟩
abbrev mZ : ah := ⟨⟨#[]⟩, 4444, 0, [], [], [], []⟩
abbrev mW : ByteArray := ⟨#[114, 111, 111, 109]⟩
theorem B8 (nodes : List (List ae)) (stmts : List (List ac)) (tnexts : List (List aw)) (groups : List (List ak)) (pairs : List (List ai)) (dets : List (List aE)) (vars : List (List aN)) (texts : List (List ByteArray)) (e : List ae)
  (h1 : nodes.length ≤ 5000000000000) (h2 : e.length ≤ 2000000) : gS nodes stmts tnexts groups pairs dets vars texts e = some (e, nodes ++ [e ++ [mN, mN]], stmts, tnexts, groups, pairs, dets, vars, texts) := by
 unfold gS
 rw [bg (by simp; omega), aa, List.nil_append, bg (by simp; omega), aa, bg (by simp; omega), aa, eY (by omega) (by simp; omega), aa]
 simp
theorem vj (nodes : List (List ae)) (stmts : List (List ac)) (tnexts : List (List aw)) (groups : List (List ak)) (pairs : List (List ai)) (dets : List (List aE)) (vars : List (List aN)) (texts : List (List ByteArray)) (l : List ac)
  (h1 : nodes.length ≤ 4900000000000) (h1' : stmts.length ≤ 4900000000000) (hl : okL l) (hn : Mks mN nodes) (hs : Mks mS stmts) :
  ∃ nodes', fO nodes stmts tnexts groups pairs dets vars texts l = some (l, nodes', stmts ++ [l ++ [mS, mS]], tnexts, groups, pairs, dets, vars, texts) ∧ Mks mN nodes' ∧ nodes'.length = nodes.length + l.length := by
 obtain ⟨hl1, hl2⟩ := hl
 have go : ∀ (k i : Nat) (nodes : List (List ae)), i + k = l.length → nodes.length + k ≤ 5000000000000 → Mks mN nodes → ∃ nodes', fX nodes stmts tnexts groups pairs dets vars texts l 4444 ⟨#[]⟩ 0 0 0 (l.take i) i = some (l, nodes', stmts ++ [l ++ [mS, mS]], tnexts, groups, pairs, dets, vars, texts) ∧ Mks mN nodes' ∧ nodes'.length = nodes.length + k := by
  intro k
  induction k with
  | zero =>
   intro i nodes h hb hn
   refine ⟨nodes, ?_, hn, rfl⟩
   rw [oO, if_neg (by omega), List.take_of_length_le (by omega), bg (by simp; omega), aa, bg (by simp; omega), aa, eY (by omega) (by simp; omega), aa]
   simp
  | succ k ih =>
   intro i nodes h hb hn
   have hi : i < l.length := by omega
   have he := (hl2 i hi).1
   obtain ⟨nodes', g1, g2, g3⟩ := ih (i + 1) (nodes ++ [l[i].Expr ++ [mN, mN]]) (by omega) (by simp; omega) (hn.snoc (by omega))
   refine ⟨nodes', ?_, g2, by simp at g3; omega⟩
   rw [oO, if_pos (by omega), ay hi, aa, B8 _ _ _ _ _ _ _ _ _ (by omega) he, aa, bg (by simp; omega), aa, au (by omega), ← g1, List.take_succ_eq_append_getElem hi]
 obtain ⟨nodes', g1, g2, g3⟩ := go l.length 0 nodes (by omega) (by omega) hn
 exact ⟨nodes', g1, g2, g3⟩
theorem GV (nodes : List (List ae)) (stmts : List (List ac)) (tnexts : List (List aw)) (groups : List (List ak)) (pairs : List (List ai)) (dets : List (List aE)) (vars : List (List aN)) (texts : List (List ByteArray))
  (tF : ab) (NameF : ByteArray) (StartF : Int) (Name1F : ByteArray) (GF : List ak) (CF : List ai) (DF : List aE) (TF : List ByteArray) (KF : List ByteArray) (VF : List aN) (Start1F : Int) (full : List ah) (i : Nat) (s : ah)
  (hi : i < 4000000) (h1 : nodes.length ≤ 4900000000000) (h2 : tnexts.length ≤ 4900000000000) (h3 : full.length ≤ 4000000) (hl : s.Nexts.length ≤ 2000000) (hw : ∀ i (h : i < s.Nexts.length), okE (s.Nexts[i]).When) (hn : Mks mN nodes) :
  ∃ nodes', fY nodes stmts tnexts groups pairs dets vars texts tF NameF StartF Name1F GF CF DF TF KF VF Start1F full i s.Name s.Id s.Green s.Enter s.During s.Leave s.Nexts 4444 [] 0 =
   dT nodes' stmts (tnexts ++ [s.Nexts ++ [mT, mT]]) groups pairs dets vars texts tF NameF StartF Name1F GF CF DF TF KF VF Start1F (full ++ [s]) ((i + 1 : Nat) : Int) ∧ Mks mN nodes' ∧ nodes'.length = nodes.length + s.Nexts.length := by
 have go : ∀ (k j : Nat) (nodes : List (List ae)), j + k = s.Nexts.length → nodes.length + k ≤ 5000000000000 → Mks mN nodes → ∃ nodes', fY nodes stmts tnexts groups pairs dets vars texts tF NameF StartF Name1F GF CF DF TF KF VF Start1F full i s.Name s.Id s.Green s.Enter s.During s.Leave s.Nexts 4444 (s.Nexts.take j) j =
   dT nodes' stmts (tnexts ++ [s.Nexts ++ [mT, mT]]) groups pairs dets vars texts tF NameF StartF Name1F GF CF DF TF KF VF Start1F (full ++ [s]) ((i + 1 : Nat) : Int) ∧ Mks mN nodes' ∧ nodes'.length = nodes.length + k := by
  intro k
  induction k with
  | zero =>
   intro j nodes h hb hn
   refine ⟨nodes, ?_, hn, rfl⟩
   rw [oQ, if_neg (by omega), List.take_of_length_le (by omega), bg (by simp; omega), aa, bg (by simp; omega), aa,
    bh (n := ((s.Nexts ++ [mT, mT]).length : Int) - 2) (by simp; omega), show ((s.Nexts ++ [mT, mT]).length : Int) - 2 = (s.Nexts.length : Int) by simp, eY (by omega) (by simp; omega), aa, bg (by simp; omega), aa, au (by omega)]
   simp
  | succ k ih =>
   intro j nodes h hb hn
   have hj : j < s.Nexts.length := by omega
   have he := (hw j hj).1
   obtain ⟨nodes', g1, g2, g3⟩ := ih (j + 1) (nodes ++ [s.Nexts[j].When ++ [mN, mN]]) (by omega) (by simp; omega) (hn.snoc (by omega))
   refine ⟨nodes', ?_, g2, by simp at g3; omega⟩
   rw [oQ, if_pos (by omega), ay hj, aa, aa, B8 _ _ _ _ _ _ _ _ _ (by omega) he, aa, bg (by simp; omega), aa, au (by omega), ← g1, List.take_succ_eq_append_getElem hj]
 obtain ⟨nodes', g1, g2, g3⟩ := go s.Nexts.length 0 nodes (by omega) (by omega) hn
 exact ⟨nodes', g1, g2, g3⟩
structure okR (t : ab) : Prop where
 s : t.Stages.length ≤ 1048576
 e : ∀ i (h : i < t.Stages.length), (t.Stages[i]).Enter.length ≤ 1048576 ∧ (t.Stages[i]).During.length ≤ 1048576 ∧ (t.Stages[i]).Leave.length ≤ 1048576 ∧ (t.Stages[i]).Nexts.length ≤ 1048576
theorem FX (groups : List (List ak)) (pairs : List (List ai)) (dets : List (List aE)) (vars : List (List aN)) (texts : List (List ByteArray))
  (t : ab) (NameF : ByteArray) (StartF : Int) (Name1F : ByteArray) (GF : List ak) (CF : List ai) (DF : List aE) (TF : List ByteArray) (KF : List ByteArray) (VF : List aN) (Start1F : Int) (hp : okP t) (hr : okR t) :
  ∀ (k i : Nat) (nodes : List (List ae)) (stmts : List (List ac)) (tnexts : List (List aw)), i + k = t.Stages.length → nodes.length ≤ i * 4194304 → stmts.length ≤ i * 3 → tnexts.length ≤ i → Mks mN nodes → Mks mS stmts → Mks mT tnexts →
  ∃ nodes' stmts' tnexts', dT nodes stmts tnexts groups pairs dets vars texts t NameF StartF Name1F GF CF DF TF KF VF Start1F (t.Stages.take i) i =
   some (Name1F, GF, CF, DF, TF, KF, VF, t.Stages, Start1F, nodes', stmts', tnexts', [t.Stages ++ [mZ, mZ]], groups, pairs, dets, vars, texts) ∧ Mks mN nodes' ∧ Mks mS stmts' ∧ Mks mT tnexts' ∧ nodes'.length ≤ 4398046511104 ∧ stmts'.length ≤ 100000000 ∧ tnexts'.length ≤ 100000000 := by
 have hs := hr.s
 intro k
 induction k with
 | zero =>
  intro i nodes stmts tnexts h b1 b2 b3 m1 m2 m3
  refine ⟨nodes, stmts, tnexts, ?_, m1, m2, m3, by omega, by omega, by omega⟩
  rw [oP, if_neg (by omega), List.take_of_length_le (by omega), bg (by simp; omega), aa, bg (by simp), aa, eY (by omega) (by simp; omega), aa]
  simp
 | succ k ih =>
  intro i nodes stmts tnexts h b1 b2 b3 m1 m2 m3
  have hi : i < t.Stages.length := by omega
  have hg := hp i hi
  obtain ⟨q1, q2, q3, q4⟩ := hr.e i hi
  obtain ⟨n1, e1, f1, l1⟩ := vj nodes stmts tnexts groups pairs dets vars texts _ (by omega) (by omega) hg.e m1 m2
  have s1 := m2.snoc (e := t.Stages[i].Enter) (by omega)
  obtain ⟨n2, e2, f2, l2⟩ := vj n1 _ tnexts groups pairs dets vars texts _ (by omega) (by simp; omega) hg.d f1 s1
  have s2 := s1.snoc (e := t.Stages[i].During) (by omega)
  obtain ⟨n3, e3, f3, l3⟩ := vj n2 _ tnexts groups pairs dets vars texts _ (by omega) (by simp; omega) hg.l f2 s2
  have s3 := s2.snoc (e := t.Stages[i].Leave) (by omega)
  obtain ⟨n4, e4, f4, l4⟩ := GV n3 (stmts ++ [t.Stages[i].Enter ++ [mS, mS]] ++ [t.Stages[i].During ++ [mS, mS]] ++ [t.Stages[i].Leave ++ [mS, mS]]) tnexts groups pairs dets vars texts t NameF StartF Name1F GF CF DF TF KF VF Start1F (t.Stages.take i) i t.Stages[i] (by omega) (by omega) (by omega) (by simp; omega) hg.n hg.w f3
  obtain ⟨n5, t5, x5, g1, g2⟩ := ih (i + 1) n4 _ _ (by omega) (by omega) (by simp; omega) (by simp; omega) f4 s3 (m3.snoc (e := t.Stages[i].Nexts) (by omega))
  refine ⟨n5, t5, x5, ?_, g2⟩
  rw [oP, if_pos (by omega), ay hi, aa, e1, aa]
  simp only
  rw [e2, aa]
  simp only
  rw [e3, aa]
  simp only
  rw [e4, ← g1, List.take_succ_eq_append_getElem hi]
theorem GW (t : ab) (h : okN t) (hp : okP t) (hr : okR t) :
  ∃ nodes' stmts' tnexts', mF t = some (t.Name, t.Tables.Groups, t.Tables.Conflicts, t.Dets, t.Timers, t.Counters, t.Vars, t.Stages, t.Start, nodes', stmts', tnexts', [t.Stages ++ [mZ, mZ]], [t.Tables.Groups ++ [mG, mG]], [t.Tables.Conflicts ++ [mC, mC]], [t.Dets ++ [mD, mD]], [t.Vars ++ [mV, mV]], [t.Timers ++ [mW, mW]] ++ [t.Counters ++ [mW, mW]]) ∧
   Mks mN nodes' ∧ Mks mS stmts' ∧ Mks mT tnexts' ∧ nodes'.length ≤ 4398046511104 ∧ stmts'.length ≤ 100000000 ∧ tnexts'.length ≤ 100000000 := by
 obtain ⟨hg, hc, hd, hti, hco, hv, hs⟩ := h
 obtain ⟨n, st, tn, g1, g2⟩ := FX [t.Tables.Groups ++ [mG, mG]] [t.Tables.Conflicts ++ [mC, mC]] [t.Dets ++ [mD, mD]] [t.Vars ++ [mV, mV]] ([t.Timers ++ [mW, mW]] ++ [t.Counters ++ [mW, mW]]) t ⟨#[]⟩ 0 t.Name t.Tables.Groups t.Tables.Conflicts t.Dets t.Timers t.Counters t.Vars t.Start hp hr t.Stages.length 0 [] [] [] (by omega) (by simp) (by simp) (by simp) .nil .nil .nil
 refine ⟨n, st, tn, ?_, g2⟩
 rw [← g1]
 have tb : lx t.Tables = some (t.Tables.Groups, t.Tables.Conflicts, [t.Tables.Groups ++ [mG, mG]], [t.Tables.Conflicts ++ [mC, mC]]) := by
  unfold lx
  rw [bg (by simp; omega), aa, List.nil_append, bg (by simp; omega), aa, bg (by simp; omega), aa, List.nil_append, bg (by simp; omega), aa, bg (by simp), aa, bg (by simp), aa, eY (by omega) (by simp; omega), aa, eY (by omega) (by simp; omega), aa]
  simp
 have db : ∀ a b, od a b t.Dets = some (t.Dets, a, b, [t.Dets ++ [mD, mD]]) := fun a b => by
  unfold od
  rw [bg (by simp; omega), aa, List.nil_append, bg (by simp; omega), aa, bg (by simp), aa, eY (by omega) (by simp; omega), aa]
  simp
 have xb : ∀ a b c (d : List (List ByteArray)) (l : List ByteArray), d.length ≤ 10 → l.length ≤ 2000000 → kg a b c d l = some (l, a, b, c, d ++ [l ++ [mW, mW]]) := fun a b c d l h1 h2 => by
  unfold kg
  rw [bg (by simp; omega), aa, List.nil_append, bg (by simp; omega), aa, bg (by simp; omega), aa, eY (by omega) (by simp; omega), aa]
  simp
 unfold mF
 rw [tb, aa, db, aa, xb _ _ _ _ _ (by simp) hti, aa, xb _ _ _ _ _ (by simp) hco, aa, bg (by simp; omega), aa, List.nil_append, bg (by simp; omega), aa, bg (by simp), aa, eY (by omega) (by simp; omega), aa]
 simp
theorem nF (l : List ae) (hl : l.length ≤ 1000000000000) : iA l l = some true := by
 unfold iA
 rw [if_pos rfl]
 refine dh l.length (ew l l) _ ?_ fun i hi => ?_
 ·rw [ew, if_neg (by omega)]
 ·rw [ew, if_pos (by omega), ay hi, au (by omega)]; simp
theorem vk (l : List ac) (hl : okL l) : dW l l = some true := by
 have h1 := hl.1
 unfold dW
 rw [if_pos rfl]
 refine dh l.length (cS l l) _ ?_ fun i hi => ?_
 ·rw [cS, if_neg (by omega)]
 ·rw [cS, if_pos (by omega), ay hi, au (by omega)]
  simp only [aa, nF _ (Nat.le_trans (hl.2 i hi).1 (by omega))]; simp
theorem rH (l : List ByteArray) (hl : l.length ≤ 1000000000000) : im l l = some true := by
 unfold im
 rw [if_pos rfl]
 refine dh l.length (dH l l) _ ?_ fun i hi => ?_
 ·rw [dH, if_neg (by omega)]
 ·rw [dH, if_pos (by omega), ay hi, au (by omega)]; simp
theorem FY (t : aI) (hg : t.Groups.length ≤ 1000000000000) (hc : t.Conflicts.length ≤ 1000000000000) : mL t t = some true := by
 unfold mL
 rw [if_pos rfl, if_pos rfl]
 refine dh t.Groups.length (dY t t) _ ?_ fun i hi => ?_
 ·rw [dY, if_neg (by omega)]
  refine dh t.Conflicts.length (dX t t) _ ?_ fun i hi => ?_
  ·rw [dX, if_neg (by omega)]
  ·rw [dX, if_pos (by omega), ay hi, au (by omega)]; simp
 ·rw [dY, if_pos (by omega), ay hi, au (by omega)]; simp
theorem GX (s : ah) (h : okG s) : oH s s = some true := by
 have hn := h.n
 unfold oH
 rw [if_pos rfl, if_pos rfl, if_pos rfl, if_pos rfl]
 refine dh s.Nexts.length (ez s s) _ ?_ fun i hi => ?_
 ·rw [ez, if_neg (by omega), vk _ h.e, aa, if_pos rfl, vk _ h.d, aa, if_pos rfl, vk _ h.l, aa]
 ·rw [ez, if_pos (by omega), ay hi, au (by omega)]
  simp only [aa, nF _ (Nat.le_trans (h.w i hi).1 (by omega))]; simp
theorem GY (t : ab) (h : okN t) (hp : okP t) : oI t t = some true := by
 obtain ⟨hg, hc, hd, hti, hco, hv, hs⟩ := h
 unfold oI
 rw [if_pos rfl, if_pos rfl, FY _ (by omega) (by omega), aa, if_pos rfl, rH _ (by omega), aa, if_pos rfl, rH _ (by omega), aa, if_pos rfl, if_pos rfl, if_pos rfl, if_pos rfl]
 refine dh t.Dets.length (eD t t) _ ?_ fun i hi => ?_
 ·rw [eD, if_neg (by omega)]
  refine dh t.Vars.length (eC t t) _ ?_ fun i hi => ?_
  ·rw [eC, if_neg (by omega)]
   refine dh t.Stages.length (eB t t) _ ?_ fun i hi => ?_
   ·rw [eB, if_neg (by omega)]
   ·rw [eB, if_pos (by omega), ay hi, aa, aa, GX _ (hp i hi), aa, if_pos rfl, au (by omega)]
  ·rw [eC, if_pos (by omega), ay hi, au (by omega)]; simp
 ·rw [eD, if_pos (by omega), ay hi, au (by omega)]; simp
theorem whole (nodes : List (List ae)) (stmts : List (List ac)) (tnexts : List (List aw)) (stages : List (List ah)) (groups : List (List ak)) (pairs : List (List ai)) (dets : List (List aE)) (vars : List (List aN)) (texts : List (List ByteArray))
  (a1 : Mks mN nodes) (a2 : Mks mS stmts) (a3 : Mks mT tnexts) (a4 : Mks mZ stages) (a5 : Mks mG groups) (a6 : Mks mC pairs) (a7 : Mks mD dets) (a8 : Mks mV vars) (a9 : Mks mW texts)
  (b1 : nodes.length ≤ 5000000000000) (b2 : stmts.length ≤ 5000000000000) (b3 : tnexts.length ≤ 5000000000000) (b4 : stages.length ≤ 5000000000000) (b5 : groups.length ≤ 5000000000000) (b6 : groups.length ≤ pairs.length) (b7 : dets.length ≤ 5000000000000) (b8 : vars.length ≤ 5000000000000) (b9 : texts.length ≤ 5000000000000) :
  mO nodes stmts tnexts stages groups pairs dets vars texts = some (true, nodes, stmts, tnexts, stages, groups, pairs, dets, vars, texts) := by
 have pl : mM nodes stmts tnexts stages groups pairs dets vars texts = some (true, nodes, stmts, tnexts, stages, groups, pairs, dets, vars, texts) := by
  unfold mM
  refine dh nodes.length (fun i => cX nodes stmts tnexts stages groups pairs dets vars texts i) _ ?_ fun i hi => ?_
  ·show cX _ _ _ _ _ _ _ _ _ _ = _
   rw [cX, if_neg (by omega)]
   refine dh stmts.length (fun i => cW nodes stmts tnexts stages groups pairs dets vars texts i) _ ?_ fun i hi => ?_
   ·show cW _ _ _ _ _ _ _ _ _ _ = _
    rw [cW, if_neg (by omega)]
    refine dh tnexts.length (fun i => cV nodes stmts tnexts stages groups pairs dets vars texts i) _ ?_ fun i hi => ?_
    ·show cV _ _ _ _ _ _ _ _ _ _ = _
     rw [cV, if_neg (by omega), nq, if_neg (by omega)]
     refine dh stages.length (fun i => cU nodes stmts tnexts stages groups pairs dets vars texts i) _ ?_ fun i hi => ?_
     ·show cU _ _ _ _ _ _ _ _ _ _ = _
      rw [cU, if_neg (by omega), np, if_neg (by omega)]
     ·have hm := a4 _ (List.getElem_mem hi)
      show cU _ _ _ _ _ _ _ _ _ _ = _
      rw [cU, if_pos (by omega), ay hi, aa, hm.at2, aa, hm.at1, aa, au (by omega), if_pos rfl, if_pos rfl]
    ·have hm := a3 _ (List.getElem_mem hi)
     show cV _ _ _ _ _ _ _ _ _ _ = _
     rw [cV, if_pos (by omega), ay hi, aa, hm.at2, aa, hm.at1, aa, au (by omega), if_pos rfl, if_pos rfl]
   ·have hm := a2 _ (List.getElem_mem hi)
    show cW _ _ _ _ _ _ _ _ _ _ = _
    rw [cW, if_pos (by omega), ay hi, aa, hm.at2, aa, hm.at1, aa, au (by omega), if_pos rfl, if_pos rfl]
  ·have hm := a1 _ (List.getElem_mem hi)
   show cX _ _ _ _ _ _ _ _ _ _ = _
   rw [cX, if_pos (by omega), ay hi, aa, hm.at2, aa, hm.at1, aa, au (by omega), if_pos rfl, if_pos rfl]
 have th : lL nodes stmts tnexts stages groups pairs dets vars texts = some (true, nodes, stmts, tnexts, stages, groups, pairs, dets, vars, texts) := by
  unfold lL
  refine dh groups.length (fun i => cK nodes stmts tnexts stages groups pairs dets vars texts i) _ ?_ fun i hi => ?_
  ·show cK _ _ _ _ _ _ _ _ _ _ = _
   rw [cK, if_neg (by omega)]
   refine dh dets.length (fun i => cJ nodes stmts tnexts stages groups pairs dets vars texts i) _ ?_ fun i hi => ?_
   ·show cJ _ _ _ _ _ _ _ _ _ _ = _
    rw [cJ, if_neg (by omega)]
    refine dh vars.length (fun i => cI nodes stmts tnexts stages groups pairs dets vars texts i) _ ?_ fun i hi => ?_
    ·show cI _ _ _ _ _ _ _ _ _ _ = _
     rw [cI, if_neg (by omega), lY, if_neg (by omega), lX, if_neg (by omega)]
    ·have hm := a8 _ (List.getElem_mem hi)
     show cI _ _ _ _ _ _ _ _ _ _ = _
     rw [cI, if_pos (by omega), ay hi, aa, hm.at2, aa, hm.at1, aa, au (by omega), if_pos rfl, if_pos rfl]
   ·have hm := a7 _ (List.getElem_mem hi)
    show cJ _ _ _ _ _ _ _ _ _ _ = _
    rw [cJ, if_pos (by omega), ay hi, aa, hm.at2, aa, hm.at1, aa, au (by omega), if_pos rfl, if_pos rfl]
  ·have hm := a5 _ (List.getElem_mem hi)
   have hm' := a6 _ (List.getElem_mem (show i < pairs.length by omega))
   show cK _ _ _ _ _ _ _ _ _ _ = _
   rw [cK, if_pos (by omega), ay hi, aa, ay (by omega), aa, hm.at2, aa, hm.at1, aa, hm'.at2, aa, hm'.at1, aa, au (by omega), if_pos rfl, if_pos rfl, if_pos rfl, if_pos rfl]
 unfold mO
 refine dh texts.length (fun i => cY nodes stmts tnexts stages groups pairs dets vars texts i) _ ?_ fun i hi => ?_
 ·show cY _ _ _ _ _ _ _ _ _ _ = _
  rw [cY, if_neg (by omega), nt, if_neg (by omega), ns, if_neg (by omega), nr, if_neg (by omega), pl, aa, if_pos rfl, th, aa]
 ·have hm := a9 _ (List.getElem_mem hi)
  show cY _ _ _ _ _ _ _ _ _ _ = _
  rw [cY, if_pos (by omega), ay hi, aa, hm.at2, aa, hm.at1, aa, au (by omega), if_pos rfl, if_pos rfl]
end Go.Proofs.YtkmbagocakiefaaGreatDoor.Wb
namespace Go.Proofs.YtkmbagocakiefaaGreatDoor.Wb
open Go Go.Jv
theorem tI {c : Prop} [Decidable c] {a : Option Bool} (h : (if c then a else some false) = some true) : c ∧ a = some true := by
 by_cases hc : c
 ·rw [if_pos hc] at h; exact ⟨hc, h⟩
 ·rw [if_neg hc] at h; simp at h
theorem tN {c : Prop} [Decidable c] {a : Option Bool} (h : (if c then some false else a) = some true) : ¬ c ∧ a = some true := by
 by_cases hc : c
 ·rw [if_pos hc] at h; simp at h
 ·rw [if_neg hc] at h; exact ⟨hc, h⟩
theorem tC {c : Prop} [Decidable c] {α : Type} {a b : Option α} {r : α} (h : (if c then a else b) = some r) : (c ∧ a = some r) ∨ (¬ c ∧ b = some r) := by
 by_cases hc : c
 ·rw [if_pos hc] at h; exact .inl ⟨hc, h⟩
 ·rw [if_neg hc] at h; exact .inr ⟨hc, h⟩
theorem tB {α β : Type} {m : Option α} {f : α → Option β} {r : β} (h : (m >>= f) = some r) : ∃ v, m = some v ∧ f v = some r := Option.bind_eq_some_iff.1 h
theorem Ez {σ : Type} {n : Nat} {f : σ → Int → Option Bool} {P : Nat → Prop} (step : ∀ (i : Nat) s, i < n → f s (i : Int) = some true → P i ∧ ∃ s', f s' ((i + 1 : Nat) : Int) = some true) :
  ∀ s, f s 0 = some true → ∀ i, i < n → P i := by
 have go : ∀ i, i < n → ∀ s, f s 0 = some true → ∃ s', f s' (i : Int) = some true := by
  intro i
  induction i with
  | zero => intro _ s h; exact ⟨s, h⟩
  | succ i ih => intro hi s h; obtain ⟨s', h'⟩ := ih (by omega) s h; exact (step i s' (by omega) h').2
 intro s h i hi
 obtain ⟨s', h'⟩ := go i hi s h
 exact (step i s' hi h').1
def Cm (t : ab) (n : ae) : Prop :=
 ((n.Op = 5 ∨ n.Op = 6) → 0 ≤ n.Val ∧ n.Val < t.Tables.Groups.length) ∧ (n.Op = 7 → 0 ≤ n.Val ∧ n.Val < t.Vars.length) ∧ (n.Op = 8 → 0 ≤ n.Val ∧ n.Val < t.Timers.length) ∧
 (n.Op = 9 → 0 ≤ n.Val ∧ n.Val < t.Counters.length) ∧ (n.Op = 10 → 0 ≤ n.Val ∧ n.Val < t.Dets.length)
def yv (t : ab) (e : List ae) : Prop := ∀ i (h : i < e.length), Cm t e[i]
theorem K3 {t : ab} {n : ae} (hv : -2147483648 ≤ n.Val ∧ n.Val ≤ 2147483647) (h : pq t n = some true) : Cm t n := by
 unfold pq lE at h
 simp only [EK _ _ hv, aa] at h
 unfold Cm
 by_cases h1 : n.Op = 1
 ·rw [h1]; omega
 by_cases h2 : n.Op = 2
 ·rw [h2]; omega
 by_cases h5 : n.Op = 5
 ·simp [h5] at h ⊢; exact h
 by_cases h6 : n.Op = 6
 ·simp [h6] at h ⊢; exact h
 by_cases h7 : n.Op = 7
 ·simp [h7] at h ⊢; exact h
 by_cases h8 : n.Op = 8
 ·simp [h8] at h ⊢; exact h
 by_cases h9 : n.Op = 9
 ·simp [h9] at h ⊢; exact h
 by_cases h10 : n.Op = 10
 ·simp [h10] at h ⊢; exact h
 omega
theorem L6 {t : ab} {e : List ae} {typ : Int} (hk : okE e) (h : fl t e typ = some true) : yv t e := by
 unfold fl at h
 obtain ⟨_, _, h⟩ := tB h
 obtain ⟨_, h⟩ := tI h
 obtain ⟨_, _, h⟩ := tB h
 obtain ⟨_, h⟩ := tI h
 obtain ⟨_, _, h⟩ := tB h
 obtain ⟨_, h⟩ := tI h
 obtain ⟨_, _, h⟩ := tB h
 obtain ⟨_, h⟩ := tN h
 have hl := hk.1
 have := Ez (n := e.length) (f := fun st i => bN typ t st e e.length i) (P := fun i => ∀ h : i < e.length, Cm t e[i]) (fun i st hi h => by
  have h := h
  rw [ep, if_pos (by omega), ay hi, aa] at h
  obtain ⟨_, h⟩ := tI h
  obtain ⟨_, h⟩ := tN h
  obtain ⟨v, hv, h⟩ := tB h
  obtain ⟨hv2, h⟩ := tN h
  have hv3 : v = true := by cases v with | true => rfl | false => exact absurd rfl hv2
  rw [hv3] at hv
  have k5 : ∀ st, ig typ t st e e.length i = some true → ∃ s', bN typ t s' e e.length ((i + 1 : Nat) : Int) = some true := fun st h => by
   rw [lV, au (by omega)] at h; exact ⟨st, h⟩
  have k2 : fe typ t st e e.length i = some true → ∃ s', bN typ t s' e e.length ((i + 1 : Nat) : Int) = some true := fun h => by
   rw [qS] at h; obtain ⟨_, _, h⟩ := tB h; exact k5 _ h
  have k3 : fZ typ t st e e.length i = some true → ∃ s', bN typ t s' e e.length ((i + 1 : Nat) : Int) = some true := fun h => by
   rw [qT] at h; obtain ⟨_, _, h⟩ := tB h; exact k5 _ h
  have k4 : ∀ st ok, jz typ t st ok e e.length i = some true → ∃ s', bN typ t s' e e.length ((i + 1 : Nat) : Int) = some true := fun st ok h => by
   rw [qU] at h; exact k5 _ (tN h).2
  refine ⟨fun _ => K3 (hk.2 i hi) hv, ?_⟩
  rcases tC h with ⟨_, h⟩ | ⟨_, h⟩
  ·exact k2 h
  rcases tC h with ⟨_, h⟩ | ⟨_, h⟩
  ·exact k2 h
  rcases tC h with ⟨_, h⟩ | ⟨_, h⟩
  ·exact k2 h
  rcases tC h with ⟨_, h⟩ | ⟨_, h⟩
  ·exact k2 h
  rcases tC h with ⟨_, h⟩ | ⟨_, h⟩
  ·exact k2 h
  rcases tC h with ⟨_, h⟩ | ⟨_, h⟩
  ·exact k3 h
  rcases tC h with ⟨_, h⟩ | ⟨_, h⟩
  ·exact k3 h
  rcases tC h with ⟨_, h⟩ | ⟨_, h⟩
  ·exact k3 h
  rcases tC h with ⟨_, h⟩ | ⟨_, h⟩
  ·exact k3 h
  obtain ⟨_, _, h⟩ := tB h
  rcases tC h with ⟨_, h⟩ | ⟨_, h⟩
  ·exact k4 _ _ h
  ·exact k4 _ _ h) [] h
 exact fun i hi => this i hi hi
theorem KI {t : ab} {e : List ae} {typ : Int} (hk : okE e) (h : sx t e typ = true) : yv t e := L6 hk (by rw [AM hk, h])
def FM (t : ab) (s : ac) : Prop := yv t s.Expr ∧ 0 ≤ s.Ix ∧ s.Ix < fU t s.Kind
theorem L7 {t : ab} {s : ac} (hk : okE s.Expr) (h : okS t s = true) : FM t s := by
 unfold okS at h
 simp only [Bool.and_eq_true, decide_eq_true_eq] at h
 obtain ⟨⟨⟨_, h1⟩, h2⟩, h3⟩ := h
 refine ⟨?_, h1, h2⟩
 split at h3
 ·rw [List.eq_nil_of_length_eq_zero (of_decide_eq_true h3)]; intro i hi; simp at hi
 ·exact KI hk h3
def yw (t : ab) (l : List ac) : Prop := ∀ i (h : i < l.length), FM t l[i]
theorem Dc {t : ab} {l : List ac} (hk : okL l) (h : lst t l = true) : yw t l := by
 have hl := hk.1
 have h0 := tp hk (t := t)
 rw [h] at h0
 unfold jn at h0
 have := Ez (n := l.length) (f := fun (o : { o : List Bool // o.length ≤ 16 }) i => ef t o.1 l l.length i) (P := fun i => ∀ h : i < l.length, FM t l[i]) (fun i o hi h => by
  have h := h
  rw [C7 t o.1 l i hi (by omega) o.2 (hk.2 i hi)] at h
  obtain ⟨h1, h⟩ := tI h
  refine ⟨fun _ => L7 (hk.2 i hi) h1, ?_⟩
  cases hc : ctl o.1 (l[i]).Kind with
  | none => rw [hc] at h; simp at h
  | some o' => rw [hc] at h; exact ⟨⟨o', IU hc o.2⟩, h⟩) ⟨[], by simp⟩ h0
 exact fun i hi => this i hi hi
def zl (t : ab) (s : ah) : Prop :=
 yw t s.Enter ∧ yw t s.During ∧ yw t s.Leave ∧ ∀ i (h : i < s.Nexts.length), 0 ≤ (s.Nexts[i]).To ∧ (s.Nexts[i]).To < t.Stages.length ∧ yv t (s.Nexts[i]).When
theorem K4 {t : ab} {s : ah} {i : Nat} (hg : okG s) (h : vG t i s = true) : zl t s := by
 unfold vG at h
 simp only [Bool.and_eq_true, decide_eq_true_eq, List.all_eq_true] at h
 obtain ⟨⟨⟨⟨_, h1⟩, h2⟩, h3⟩, h4⟩ := h
 refine ⟨Dc hg.e h1, Dc hg.d h2, Dc hg.l h3, fun j hj => ?_⟩
 have := h4 _ (List.getElem_mem hj)
 unfold mc at this
 simp only [Bool.and_eq_true, decide_eq_true_eq] at this
 obtain ⟨⟨⟨a, b⟩, _⟩, c⟩ := this
 exact ⟨a, b, KI (hg.w j hj) c⟩
structure Mj (t : ab) : Prop where
 c : ∀ i (h : i < t.Tables.Conflicts.length), (0 ≤ (t.Tables.Conflicts[i]).A ∧ (t.Tables.Conflicts[i]).A < t.Tables.Groups.length) ∧ 0 ≤ (t.Tables.Conflicts[i]).B ∧ (t.Tables.Conflicts[i]).B < t.Tables.Groups.length
 s : ∀ i (h : i < t.Stages.length), zl t t.Stages[i]
 b : 0 ≤ t.Start ∧ t.Start < t.Stages.length
theorem I7 {t : ab} (hn : okN t) (hp : okP t) (h : rE t = some true) : Mj t := by
 have hgg := hn.g
 have hcc := hn.c
 have hss := hn.s
 have hdd := hn.d
 unfold rE at h
 obtain ⟨v, hv, h⟩ := tB h
 obtain ⟨hv2, h⟩ := tI h
 rw [hv2] at hv
 obtain ⟨_, h⟩ := tN h
 obtain ⟨_, h⟩ := tN h
 obtain ⟨_, h⟩ := tN h
 obtain ⟨_, h⟩ := tN h
 rw [mu, aa] at h
 obtain ⟨_, h⟩ := tI h
 rw [mu, aa] at h
 obtain ⟨hst, h⟩ := tI h
 obtain ⟨_, _, h⟩ := tB h
 obtain ⟨_, h⟩ := tN h
 rw [bh (by omega), decide_eq_true_eq] at hst
 have h2 : dK t 0 0 0 t.Stages t.Stages.length 0 = some true := by
  have go : ∀ (k i : Nat), i + k = t.Dets.length → fz t t.Dets t.Dets.length i = some true → dK t 0 0 0 t.Stages t.Stages.length 0 = some true := by
   intro k
   induction k with
   | zero => intro i hi h; rw [fz, if_neg (by omega)] at h; exact h
   | succ k ih =>
    intro i hi h
    rw [fz, if_pos (by omega), ay (by omega), aa] at h
    obtain ⟨_, _, h⟩ := tB h
    obtain ⟨_, h⟩ := tI h
    obtain ⟨_, _, h⟩ := tB h
    obtain ⟨_, h⟩ := tI h
    rw [au (by omega)] at h
    exact ih (i + 1) (by omega) h
  exact go t.Dets.length 0 (by omega) h
 refine ⟨?_, ?_, by omega⟩
 ·unfold yJ at hv
  obtain ⟨_, hv⟩ := tN hv
  have h3 : iW t.Tables (-1) (-1) t.Tables.Conflicts t.Tables.Conflicts.length 0 = some true := by
   have go : ∀ (k i : Nat), i + k = t.Tables.Groups.length → gx t.Tables t.Tables.Groups t.Tables.Groups.length i = some true → iW t.Tables (-1) (-1) t.Tables.Conflicts t.Tables.Conflicts.length 0 = some true := by
    intro k
    induction k with
    | zero => intro i hi h; rw [gx, if_neg (by omega)] at h; exact h
    | succ k ih =>
     intro i hi h
     rw [gx, if_pos (by omega), ay (by omega), aa] at h
     obtain ⟨_, _, h⟩ := tB h
     obtain ⟨_, h⟩ := tI h
     obtain ⟨_, _, h⟩ := tB h
     obtain ⟨_, h⟩ := tI h
     obtain ⟨_, _, h⟩ := tB h
     obtain ⟨_, h⟩ := tI h
     obtain ⟨_, _, h⟩ := tB h
     obtain ⟨_, h⟩ := tI h
     rw [au (by omega)] at h
     exact ih (i + 1) (by omega) h
   exact go t.Tables.Groups.length 0 (by omega) hv
  have := Ez (n := t.Tables.Conflicts.length) (f := fun (s : Int × Int) i => iW t.Tables s.1 s.2 t.Tables.Conflicts t.Tables.Conflicts.length i)
   (P := fun i => ∀ h : i < t.Tables.Conflicts.length, (0 ≤ (t.Tables.Conflicts[i]).A ∧ (t.Tables.Conflicts[i]).A < t.Tables.Groups.length) ∧ 0 ≤ (t.Tables.Conflicts[i]).B ∧ (t.Tables.Conflicts[i]).B < t.Tables.Groups.length) (fun i s hi h => by
   have h := h
   rw [ss, if_pos (by omega), ay hi, aa] at h
   obtain ⟨h1, h⟩ := tN h
   obtain ⟨h2, h⟩ := tN h
   obtain ⟨h3, h⟩ := tN h
   obtain ⟨_, _, h⟩ := tB h
   obtain ⟨_, h⟩ := tI h
   obtain ⟨_, _, h⟩ := tB h
   obtain ⟨_, h⟩ := tI h
   obtain ⟨_, h⟩ := tN h
   have k3 : qk t.Tables t.Tables.Conflicts[i] t.Tables.Conflicts t.Tables.Conflicts.length i = some true := by
    split at h
    ·exact (tN h).2
    ·exact h
   rw [yI, au (by omega)] at k3
   exact ⟨fun _ => by omega, ⟨(_, _), k3⟩⟩) ((-1), (-1)) h3
  exact fun i hi => this i hi hi
 ·have := Ez (n := t.Stages.length) (f := fun (s : Int × Int × Int) i => dK t s.1 s.2.1 s.2.2 t.Stages t.Stages.length i) (P := fun i => ∀ h : i < t.Stages.length, zl t t.Stages[i]) (fun i s hi h => by
   have h := h
   rw [dK, if_pos (by omega), ay hi, aa] at h
   obtain ⟨_, _, h⟩ := tB h
   obtain ⟨_, h⟩ := tN h
   obtain ⟨_, h⟩ := tN h
   obtain ⟨_, h⟩ := tN h
   rw [Af t hn hp i hi, aa] at h
   obtain ⟨h1, h⟩ := tN h
   rw [au (by omega)] at h
   exact ⟨fun _ => K4 (hp i hi) (by simpa using h1), ⟨(_, _, _), h⟩⟩) (0, 0, 0) h2
  exact fun i hi => this i hi hi
end Go.Proofs.YtkmbagocakiefaaGreatDoor.Wb
