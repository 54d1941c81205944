/- Room: what is handed in is as it was, with its marks behind it. -/
import Derived.Test.YtdcpfmjnkcodiaaDoorE3
import Derived.Test.YtdcpfmjnkcodiaaDoorB2
import Derived.Test.YtdcpfmjnkcodiaaDoorA6
import Derived.Test.YtdcpfmjnkcodiaaDoorProg
namespace Go.Proofs.YtdcpfmjnkcodiaaDoor.We
open Go Go.Jv
theorem run_loop {β : Type} (n : Nat) (f : Int → β) (fin : β) (hstop : f (n : Int) = fin) (hstep : ∀ (i : Nat), i < n → f i = f ((i + 1 : Nat) : Int)) : f 0 = fin := by
 have go : ∀ k i, i + k = n → f (i : Nat) = fin := by
  intro k
  induction k with
  | zero => intro i h; have : i = n := by omega
            subst this; exact hstop
  | succ k ih => intro i h; rw [hstep i (by omega)]; exact ih (i + 1) (by omega)
 exact go n 0 (by omega)
def Mk {α : Type} (m : α) (x : List α) : Prop := ∃ e, x = e ++ [m, m] ∧ e.length ≤ 1000000000000
def Mks {α : Type} (m : α) (l : List (List α)) : Prop := ∀ x, x ∈ l → Mk m x
theorem Mks.nil {α : Type} {m : α} : Mks m [] := fun _ h => absurd h List.not_mem_nil
theorem Mks.snoc {α : Type} {m : α} {l : List (List α)} {e : List α} (h : Mks m l) (he : e.length ≤ 1000000000000) : Mks m (l ++ [e ++ [m, m]]) := fun x hx => by
 rcases List.mem_append.mp hx with hx | hx
 ·exact h x hx
 ·exact ⟨e, List.mem_singleton.mp hx, he⟩
theorem Mks.one {α : Type} {m : α} {e : List α} (he : e.length ≤ 1000000000000) : Mks m [e ++ [m, m]] := fun x hx => ⟨e, List.mem_singleton.mp hx, he⟩
theorem Mk.at2 {α : Type} {m : α} {x : List α} (h : Mk m x) : idx x (w64 ((x.length : Int) - 2)) = some m := by
 obtain ⟨e, rfl, he⟩ := h
 rw [w64_id (by simp; omega), show ((e ++ [m, m]).length : Int) - 2 = ((e.length : Nat) : Int) by simp, idx_at (by simp)]; simp
theorem Mk.at1 {α : Type} {m : α} {x : List α} (h : Mk m x) : idx x (w64 ((x.length : Int) - 1)) = some m := by
 obtain ⟨e, rfl, he⟩ := h
 rw [w64_id (by simp; omega), show ((e ++ [m, m]).length : Int) - 1 = ((e.length + 1 : Nat) : Int) by simp; omega, idx_at (by simp)]; simp
abbrev mN : NodeT := ⟨4444, 0, ⟨#[]⟩, (⟨0, 0⟩ : PosT)⟩
abbrev mS : StmtT := ⟨4444, ⟨#[]⟩, 0, [], (⟨0, 0⟩ : PosT)⟩
abbrev mT : TNextT := ⟨4444, []⟩
abbrev mG : GroupT := ⟨⟨#[]⟩, 0, 4444, 0, 0⟩
abbrev mC : ConflictT := ⟨4444, 0, 0, 0⟩
abbrev mD : DetT := ⟨⟨#[]⟩, false, 4444, 0⟩
abbrev mV : VarT := ⟨⟨#[]⟩, 4444⟩
abbrev mZ : TStageT := ⟨⟨#[]⟩, 4444, 0, [], [], [], []⟩
abbrev mW : ByteArray := ⟨#[114, 111, 111, 109]⟩
theorem room_nodes (nodes : List (List NodeT)) (stmts : List (List StmtT)) (tnexts : List (List TNextT)) (stages : List (List TStageT)) (groups : List (List GroupT)) (pairs : List (List ConflictT)) (dets : List (List DetT)) (vars : List (List VarT)) (texts : List (List ByteArray)) (e : List NodeT)
  (h1 : nodes.length ≤ 5000000000000) (h2 : e.length ≤ 2000000) : r5_Room_Nodes nodes stmts tnexts stages groups pairs dets vars texts e = some (e, nodes ++ [e ++ [mN, mN]], stmts, tnexts, stages, groups, pairs, dets, vars, texts) := by
 unfold r5_Room_Nodes
 rw [app_ok (by simp; omega), some_bind, List.nil_append, app_ok (by simp; omega), some_bind, app_ok (by simp; omega), some_bind, cut_pre (by omega) (by simp; omega), some_bind]
 simp
theorem room_stmts (nodes : List (List NodeT)) (stmts : List (List StmtT)) (tnexts : List (List TNextT)) (stages : List (List TStageT)) (groups : List (List GroupT)) (pairs : List (List ConflictT)) (dets : List (List DetT)) (vars : List (List VarT)) (texts : List (List ByteArray)) (l : List StmtT)
  (h1 : nodes.length ≤ 4900000000000) (h1' : stmts.length ≤ 4900000000000) (hl : okL l) (hn : Mks mN nodes) (hs : Mks mS stmts) :
  ∃ nodes', r5_Room_Stmts nodes stmts tnexts stages groups pairs dets vars texts l = some (l, nodes', stmts ++ [l ++ [mS, mS]], tnexts, stages, groups, pairs, dets, vars, texts) ∧ Mks mN nodes' ∧ nodes'.length = nodes.length + l.length := by
 obtain ⟨hl1, hl2⟩ := hl
 have go : ∀ (k i : Nat) (nodes : List (List NodeT)), i + k = l.length → nodes.length + k ≤ 5000000000000 → Mks mN nodes → ∃ nodes', r5_Room_Stmts_L1 nodes stmts tnexts stages groups pairs dets vars texts l 4444 ⟨#[]⟩ 0 0 0 (l.take i) i = some (l, nodes', stmts ++ [l ++ [mS, mS]], tnexts, stages, groups, pairs, dets, vars, texts) ∧ Mks mN nodes' ∧ nodes'.length = nodes.length + k := by
  intro k
  induction k with
  | zero =>
   intro i nodes h hb hn
   refine ⟨nodes, ?_, hn, rfl⟩
   rw [r5_Room_Stmts_L1_eq, if_neg (by omega), List.take_of_length_le (by omega), app_ok (by simp; omega), some_bind, app_ok (by simp; omega), some_bind, cut_pre (by omega) (by simp; omega), some_bind]
   simp
  | succ k ih =>
   intro i nodes h hb hn
   have hi : i < l.length := by omega
   have he := (hl2 i hi).1
   obtain ⟨nodes', g1, g2, g3⟩ := ih (i + 1) (nodes ++ [l[i].Expr ++ [mN, mN]]) (by omega) (by simp; omega) (hn.snoc (by omega))
   refine ⟨nodes', ?_, g2, by simp at g3; omega⟩
   rw [r5_Room_Stmts_L1_eq, if_pos (by omega), idx_at hi, some_bind, room_nodes _ _ _ _ _ _ _ _ _ _ (by omega) he, some_bind, app_ok (by simp; omega), some_bind, w64_succ (by omega), ← g1, List.take_succ_eq_append_getElem hi]
 obtain ⟨nodes', g1, g2, g3⟩ := go l.length 0 nodes (by omega) (by omega) hn
 exact ⟨nodes', g1, g2, g3⟩
theorem room_nexts (nodes : List (List NodeT)) (stmts : List (List StmtT)) (tnexts : List (List TNextT)) (stages : List (List TStageT)) (groups : List (List GroupT)) (pairs : List (List ConflictT)) (dets : List (List DetT)) (vars : List (List VarT)) (texts : List (List ByteArray))
  (tF : TypedT) (NameF : ByteArray) (StartF : Int) (Name1F : ByteArray) (GF : List GroupT) (CF : List ConflictT) (DF : List DetT) (TF : List ByteArray) (KF : List ByteArray) (VF : List VarT) (Start1F : Int) (full : List TStageT) (i : Nat) (s : TStageT)
  (hi : i < 4000000) (h1 : nodes.length ≤ 4900000000000) (h2 : tnexts.length ≤ 4900000000000) (h3 : full.length ≤ 4000000) (hl : s.Nexts.length ≤ 2000000) (hw : ∀ i (h : i < s.Nexts.length), okE (s.Nexts[i]).When) (hn : Mks mN nodes) :
  ∃ nodes', r5_Room_Typed_L2 nodes stmts tnexts stages groups pairs dets vars texts tF NameF StartF Name1F GF CF DF TF KF VF Start1F full i s.Name s.Id s.Green s.Enter s.During s.Leave s.Nexts 4444 [] 0 =
   r5_Room_Typed_L1 nodes' stmts (tnexts ++ [s.Nexts ++ [mT, mT]]) stages groups pairs dets vars texts tF NameF StartF Name1F GF CF DF TF KF VF Start1F (full ++ [s]) ((i + 1 : Nat) : Int) ∧ Mks mN nodes' ∧ nodes'.length = nodes.length + s.Nexts.length := by
 have go : ∀ (k j : Nat) (nodes : List (List NodeT)), j + k = s.Nexts.length → nodes.length + k ≤ 5000000000000 → Mks mN nodes → ∃ nodes', r5_Room_Typed_L2 nodes stmts tnexts stages groups pairs dets vars texts tF NameF StartF Name1F GF CF DF TF KF VF Start1F full i s.Name s.Id s.Green s.Enter s.During s.Leave s.Nexts 4444 (s.Nexts.take j) j =
   r5_Room_Typed_L1 nodes' stmts (tnexts ++ [s.Nexts ++ [mT, mT]]) stages groups pairs dets vars texts tF NameF StartF Name1F GF CF DF TF KF VF Start1F (full ++ [s]) ((i + 1 : Nat) : Int) ∧ Mks mN nodes' ∧ nodes'.length = nodes.length + k := by
  intro k
  induction k with
  | zero =>
   intro j nodes h hb hn
   refine ⟨nodes, ?_, hn, rfl⟩
   rw [r5_Room_Typed_L2_eq, if_neg (by omega), List.take_of_length_le (by omega), app_ok (by simp; omega), some_bind, app_ok (by simp; omega), some_bind,
    w64_id (n := ((s.Nexts ++ [mT, mT]).length : Int) - 2) (by simp; omega), show ((s.Nexts ++ [mT, mT]).length : Int) - 2 = (s.Nexts.length : Int) by simp, cut_pre (by omega) (by simp; omega), some_bind, app_ok (by simp; omega), some_bind, w64_succ (by omega)]
   simp
  | succ k ih =>
   intro j nodes h hb hn
   have hj : j < s.Nexts.length := by omega
   have he := (hw j hj).1
   obtain ⟨nodes', g1, g2, g3⟩ := ih (j + 1) (nodes ++ [s.Nexts[j].When ++ [mN, mN]]) (by omega) (by simp; omega) (hn.snoc (by omega))
   refine ⟨nodes', ?_, g2, by simp at g3; omega⟩
   rw [r5_Room_Typed_L2_eq, if_pos (by omega), idx_at hj, some_bind, some_bind, room_nodes _ _ _ _ _ _ _ _ _ _ (by omega) he, some_bind, app_ok (by simp; omega), some_bind, w64_succ (by omega), ← g1, List.take_succ_eq_append_getElem hj]
 obtain ⟨nodes', g1, g2, g3⟩ := go s.Nexts.length 0 nodes (by omega) (by omega) hn
 exact ⟨nodes', g1, g2, g3⟩
structure okR (t : TypedT) : Prop where
 s : t.Stages.length ≤ 1048576
 e : ∀ i (h : i < t.Stages.length), (t.Stages[i]).Enter.length ≤ 1048576 ∧ (t.Stages[i]).During.length ≤ 1048576 ∧ (t.Stages[i]).Leave.length ≤ 1048576 ∧ (t.Stages[i]).Nexts.length ≤ 1048576
theorem room_stages (groups : List (List GroupT)) (pairs : List (List ConflictT)) (dets : List (List DetT)) (vars : List (List VarT)) (texts : List (List ByteArray))
  (t : TypedT) (NameF : ByteArray) (StartF : Int) (Name1F : ByteArray) (GF : List GroupT) (CF : List ConflictT) (DF : List DetT) (TF : List ByteArray) (KF : List ByteArray) (VF : List VarT) (Start1F : Int) (hp : okP t) (hr : okR t) :
  ∀ (k i : Nat) (nodes : List (List NodeT)) (stmts : List (List StmtT)) (tnexts : List (List TNextT)), i + k = t.Stages.length → nodes.length ≤ i * 4194304 → stmts.length ≤ i * 3 → tnexts.length ≤ i → Mks mN nodes → Mks mS stmts → Mks mT tnexts →
  ∃ nodes' stmts' tnexts', r5_Room_Typed_L1 nodes stmts tnexts [] groups pairs dets vars texts t NameF StartF Name1F GF CF DF TF KF VF Start1F (t.Stages.take i) i =
   some (Name1F, GF, CF, DF, TF, KF, VF, t.Stages, Start1F, nodes', stmts', tnexts', [t.Stages ++ [mZ, mZ]], groups, pairs, dets, vars, texts) ∧ Mks mN nodes' ∧ Mks mS stmts' ∧ Mks mT tnexts' ∧ nodes'.length ≤ 4398046511104 ∧ stmts'.length ≤ 100000000 ∧ tnexts'.length ≤ 100000000 := by
 have hs := hr.s
 intro k
 induction k with
 | zero =>
  intro i nodes stmts tnexts h b1 b2 b3 m1 m2 m3
  refine ⟨nodes, stmts, tnexts, ?_, m1, m2, m3, by omega, by omega, by omega⟩
  rw [r5_Room_Typed_L1_eq, if_neg (by omega), List.take_of_length_le (by omega), app_ok (by simp; omega), some_bind, app_ok (by simp), some_bind, cut_pre (by omega) (by simp; omega), some_bind]
  simp
 | succ k ih =>
  intro i nodes stmts tnexts h b1 b2 b3 m1 m2 m3
  have hi : i < t.Stages.length := by omega
  have hg := hp i hi
  obtain ⟨q1, q2, q3, q4⟩ := hr.e i hi
  obtain ⟨n1, e1, f1, l1⟩ := room_stmts nodes stmts tnexts [] groups pairs dets vars texts _ (by omega) (by omega) hg.e m1 m2
  have s1 := m2.snoc (e := t.Stages[i].Enter) (by omega)
  obtain ⟨n2, e2, f2, l2⟩ := room_stmts n1 _ tnexts [] groups pairs dets vars texts _ (by omega) (by simp; omega) hg.d f1 s1
  have s2 := s1.snoc (e := t.Stages[i].During) (by omega)
  obtain ⟨n3, e3, f3, l3⟩ := room_stmts n2 _ tnexts [] groups pairs dets vars texts _ (by omega) (by simp; omega) hg.l f2 s2
  have s3 := s2.snoc (e := t.Stages[i].Leave) (by omega)
  obtain ⟨n4, e4, f4, l4⟩ := room_nexts n3 (stmts ++ [t.Stages[i].Enter ++ [mS, mS]] ++ [t.Stages[i].During ++ [mS, mS]] ++ [t.Stages[i].Leave ++ [mS, mS]]) tnexts [] groups pairs dets vars texts t NameF StartF Name1F GF CF DF TF KF VF Start1F (t.Stages.take i) i t.Stages[i] (by omega) (by omega) (by omega) (by simp; omega) hg.n hg.w f3
  obtain ⟨n5, t5, x5, g1, g2⟩ := ih (i + 1) n4 _ _ (by omega) (by omega) (by simp; omega) (by simp; omega) f4 s3 (m3.snoc (e := t.Stages[i].Nexts) (by omega))
  refine ⟨n5, t5, x5, ?_, g2⟩
  rw [r5_Room_Typed_L1_eq, if_pos (by omega), idx_at hi, some_bind, e1, some_bind]
  simp only
  rw [e2, some_bind]
  simp only
  rw [e3, some_bind]
  simp only
  rw [e4, ← g1, List.take_succ_eq_append_getElem hi]
theorem room_typed (t : TypedT) (h : okN t) (hp : okP t) (hr : okR t) :
  ∃ nodes' stmts' tnexts', r5_Room_Typed t = some (t.Name, t.Tables.Groups, t.Tables.Conflicts, t.Dets, t.Timers, t.Counters, t.Vars, t.Stages, t.Start, nodes', stmts', tnexts', [t.Stages ++ [mZ, mZ]], [t.Tables.Groups ++ [mG, mG]], [t.Tables.Conflicts ++ [mC, mC]], [t.Dets ++ [mD, mD]], [t.Vars ++ [mV, mV]], [t.Timers ++ [mW, mW]] ++ [t.Counters ++ [mW, mW]]) ∧
   Mks mN nodes' ∧ Mks mS stmts' ∧ Mks mT tnexts' ∧ nodes'.length ≤ 4398046511104 ∧ stmts'.length ≤ 100000000 ∧ tnexts'.length ≤ 100000000 := by
 obtain ⟨hg, hc, hd, hti, hco, hv, hs⟩ := h
 obtain ⟨n, st, tn, g1, g2⟩ := room_stages [t.Tables.Groups ++ [mG, mG]] [t.Tables.Conflicts ++ [mC, mC]] [t.Dets ++ [mD, mD]] [t.Vars ++ [mV, mV]] ([t.Timers ++ [mW, mW]] ++ [t.Counters ++ [mW, mW]]) t ⟨#[]⟩ 0 t.Name t.Tables.Groups t.Tables.Conflicts t.Dets t.Timers t.Counters t.Vars t.Start hp hr t.Stages.length 0 [] [] [] (by omega) (by simp) (by simp) (by simp) .nil .nil .nil
 refine ⟨n, st, tn, ?_, g2⟩
 rw [← g1]
 have tb : r5_Room_Tables t.Tables = some (t.Tables.Groups, t.Tables.Conflicts, [t.Tables.Groups ++ [mG, mG]], [t.Tables.Conflicts ++ [mC, mC]]) := by
  unfold r5_Room_Tables
  rw [app_ok (by simp; omega), some_bind, List.nil_append, app_ok (by simp; omega), some_bind, app_ok (by simp; omega), some_bind, List.nil_append, app_ok (by simp; omega), some_bind, app_ok (by simp), some_bind, app_ok (by simp), some_bind, cut_pre (by omega) (by simp; omega), some_bind, cut_pre (by omega) (by simp; omega), some_bind]
  simp
 have db : ∀ a b, r5_Room_Dets a b t.Dets = some (t.Dets, a, b, [t.Dets ++ [mD, mD]]) := fun a b => by
  unfold r5_Room_Dets
  rw [app_ok (by simp; omega), some_bind, List.nil_append, app_ok (by simp; omega), some_bind, app_ok (by simp), some_bind, cut_pre (by omega) (by simp; omega), some_bind]
  simp
 have xb : ∀ a b c (d : List (List ByteArray)) (l : List ByteArray), d.length ≤ 10 → l.length ≤ 2000000 → r5_Room_Texts a b c d l = some (l, a, b, c, d ++ [l ++ [mW, mW]]) := fun a b c d l h1 h2 => by
  unfold r5_Room_Texts
  rw [app_ok (by simp; omega), some_bind, List.nil_append, app_ok (by simp; omega), some_bind, app_ok (by simp; omega), some_bind, cut_pre (by omega) (by simp; omega), some_bind]
  simp
 unfold r5_Room_Typed
 rw [tb, some_bind, db, some_bind, xb _ _ _ _ _ (by simp) hti, some_bind, xb _ _ _ _ _ (by simp) hco, some_bind, app_ok (by simp; omega), some_bind, List.nil_append, app_ok (by simp; omega), some_bind, app_ok (by simp), some_bind, cut_pre (by omega) (by simp; omega), some_bind]
 simp
theorem nodes_same (l : List NodeT) (hl : l.length ≤ 1000000000000) : r5_SameNodes l l = some true := by
 unfold r5_SameNodes
 rw [if_pos rfl]
 refine run_loop l.length (r5_SameNodes_L1 l l) _ ?_ fun i hi => ?_
 ·rw [r5_SameNodes_L1, if_neg (by omega)]
 ·rw [r5_SameNodes_L1, if_pos (by omega), idx_at hi, w64_succ (by omega)]; simp
theorem stmts_same (l : List StmtT) (hl : okL l) : r5_SameStmts l l = some true := by
 have h1 := hl.1
 unfold r5_SameStmts
 rw [if_pos rfl]
 refine run_loop l.length (r5_SameStmts_L1 l l) _ ?_ fun i hi => ?_
 ·rw [r5_SameStmts_L1, if_neg (by omega)]
 ·rw [r5_SameStmts_L1, if_pos (by omega), idx_at hi, w64_succ (by omega)]
  simp only [some_bind, nodes_same _ (Nat.le_trans (hl.2 i hi).1 (by omega))]; simp
theorem strings_same (l : List ByteArray) (hl : l.length ≤ 1000000000000) : r5_SameStrings l l = some true := by
 unfold r5_SameStrings
 rw [if_pos rfl]
 refine run_loop l.length (r5_SameStrings_L1 l l) _ ?_ fun i hi => ?_
 ·rw [r5_SameStrings_L1, if_neg (by omega)]
 ·rw [r5_SameStrings_L1, if_pos (by omega), idx_at hi, w64_succ (by omega)]; simp
theorem tables_same (t : TablesT) (hg : t.Groups.length ≤ 1000000000000) (hc : t.Conflicts.length ≤ 1000000000000) : r5_SameTables t t = some true := by
 unfold r5_SameTables
 rw [if_pos rfl, if_pos rfl]
 refine run_loop t.Groups.length (r5_SameTables_L1 t t) _ ?_ fun i hi => ?_
 ·rw [r5_SameTables_L1, if_neg (by omega)]
  refine run_loop t.Conflicts.length (r5_SameTables_L2 t t) _ ?_ fun i hi => ?_
  ·rw [r5_SameTables_L2, if_neg (by omega)]
  ·rw [r5_SameTables_L2, if_pos (by omega), idx_at hi, w64_succ (by omega)]; simp
 ·rw [r5_SameTables_L1, if_pos (by omega), idx_at hi, w64_succ (by omega)]; simp
theorem stage_same (s : TStageT) (h : okG s) : r5_sameStage s s = some true := by
 have hn := h.n
 unfold r5_sameStage
 rw [if_pos rfl, if_pos rfl, if_pos rfl, if_pos rfl]
 refine run_loop s.Nexts.length (r5_sameStage_L1 s s) _ ?_ fun i hi => ?_
 ·rw [r5_sameStage_L1, if_neg (by omega), stmts_same _ h.e, some_bind, if_pos rfl, stmts_same _ h.d, some_bind, if_pos rfl, stmts_same _ h.l, some_bind]
 ·rw [r5_sameStage_L1, if_pos (by omega), idx_at hi, w64_succ (by omega)]
  simp only [some_bind, nodes_same _ (Nat.le_trans (h.w i hi).1 (by omega))]; simp
theorem typed_same (t : TypedT) (h : okN t) (hp : okP t) : r5_SameTyped t t = some true := by
 obtain ⟨hg, hc, hd, hti, hco, hv, hs⟩ := h
 unfold r5_SameTyped
 rw [if_pos rfl, if_pos rfl, tables_same _ (by omega) (by omega), some_bind, if_pos rfl, strings_same _ (by omega), some_bind, if_pos rfl, strings_same _ (by omega), some_bind, if_pos rfl, if_pos rfl, if_pos rfl, if_pos rfl]
 refine run_loop t.Dets.length (r5_SameTyped_L1 t t) _ ?_ fun i hi => ?_
 ·rw [r5_SameTyped_L1, if_neg (by omega)]
  refine run_loop t.Vars.length (r5_SameTyped_L2 t t) _ ?_ fun i hi => ?_
  ·rw [r5_SameTyped_L2, if_neg (by omega)]
   refine run_loop t.Stages.length (r5_SameTyped_L3 t t) _ ?_ fun i hi => ?_
   ·rw [r5_SameTyped_L3, if_neg (by omega)]
   ·rw [r5_SameTyped_L3, if_pos (by omega), idx_at hi, some_bind, some_bind, stage_same _ (hp i hi), some_bind, if_pos rfl, w64_succ (by omega)]
  ·rw [r5_SameTyped_L2, if_pos (by omega), idx_at hi, w64_succ (by omega)]; simp
 ·rw [r5_SameTyped_L1, if_pos (by omega), idx_at hi, w64_succ (by omega)]; simp
theorem whole (nodes : List (List NodeT)) (stmts : List (List StmtT)) (tnexts : List (List TNextT)) (stages : List (List TStageT)) (groups : List (List GroupT)) (pairs : List (List ConflictT)) (dets : List (List DetT)) (vars : List (List VarT)) (texts : List (List ByteArray))
  (a1 : Mks mN nodes) (a2 : Mks mS stmts) (a3 : Mks mT tnexts) (a4 : Mks mZ stages) (a5 : Mks mG groups) (a6 : Mks mC pairs) (a7 : Mks mD dets) (a8 : Mks mV vars) (a9 : Mks mW texts)
  (b1 : nodes.length ≤ 5000000000000) (b2 : stmts.length ≤ 5000000000000) (b3 : tnexts.length ≤ 5000000000000) (b4 : stages.length ≤ 5000000000000) (b5 : groups.length ≤ 5000000000000) (b6 : groups.length ≤ pairs.length) (b7 : dets.length ≤ 5000000000000) (b8 : vars.length ≤ 5000000000000) (b9 : texts.length ≤ 5000000000000) :
  r5_Room_Whole nodes stmts tnexts stages groups pairs dets vars texts = some (true, nodes, stmts, tnexts, stages, groups, pairs, dets, vars, texts) := by
 have pl : r5_Room_plans nodes stmts tnexts stages groups pairs dets vars texts = some (true, nodes, stmts, tnexts, stages, groups, pairs, dets, vars, texts) := by
  unfold r5_Room_plans
  refine run_loop nodes.length (fun i => r5_Room_plans_L1 nodes stmts tnexts stages groups pairs dets vars texts i) _ ?_ fun i hi => ?_
  ·show r5_Room_plans_L1 _ _ _ _ _ _ _ _ _ _ = _
   rw [r5_Room_plans_L1, if_neg (by omega)]
   refine run_loop stmts.length (fun i => r5_Room_plans_L2 nodes stmts tnexts stages groups pairs dets vars texts i) _ ?_ fun i hi => ?_
   ·show r5_Room_plans_L2 _ _ _ _ _ _ _ _ _ _ = _
    rw [r5_Room_plans_L2, if_neg (by omega)]
    refine run_loop tnexts.length (fun i => r5_Room_plans_L3 nodes stmts tnexts stages groups pairs dets vars texts i) _ ?_ fun i hi => ?_
    ·show r5_Room_plans_L3 _ _ _ _ _ _ _ _ _ _ = _
     rw [r5_Room_plans_L3, if_neg (by omega), r5_Room_plans_L4, if_neg (by omega)]
     refine run_loop stages.length (fun i => r5_Room_plans_L5 nodes stmts tnexts stages groups pairs dets vars texts i) _ ?_ fun i hi => ?_
     ·show r5_Room_plans_L5 _ _ _ _ _ _ _ _ _ _ = _
      rw [r5_Room_plans_L5, if_neg (by omega), r5_Room_plans_L6, if_neg (by omega)]
     ·have hm := a4 _ (List.getElem_mem hi)
      show r5_Room_plans_L5 _ _ _ _ _ _ _ _ _ _ = _
      rw [r5_Room_plans_L5, if_pos (by omega), idx_at hi, some_bind, hm.at2, some_bind, hm.at1, some_bind, w64_succ (by omega), if_pos rfl, if_pos rfl]
    ·have hm := a3 _ (List.getElem_mem hi)
     show r5_Room_plans_L3 _ _ _ _ _ _ _ _ _ _ = _
     rw [r5_Room_plans_L3, if_pos (by omega), idx_at hi, some_bind, hm.at2, some_bind, hm.at1, some_bind, w64_succ (by omega), if_pos rfl, if_pos rfl]
   ·have hm := a2 _ (List.getElem_mem hi)
    show r5_Room_plans_L2 _ _ _ _ _ _ _ _ _ _ = _
    rw [r5_Room_plans_L2, if_pos (by omega), idx_at hi, some_bind, hm.at2, some_bind, hm.at1, some_bind, w64_succ (by omega), if_pos rfl, if_pos rfl]
  ·have hm := a1 _ (List.getElem_mem hi)
   show r5_Room_plans_L1 _ _ _ _ _ _ _ _ _ _ = _
   rw [r5_Room_plans_L1, if_pos (by omega), idx_at hi, some_bind, hm.at2, some_bind, hm.at1, some_bind, w64_succ (by omega), if_pos rfl, if_pos rfl]
 have th : r5_Room_things nodes stmts tnexts stages groups pairs dets vars texts = some (true, nodes, stmts, tnexts, stages, groups, pairs, dets, vars, texts) := by
  unfold r5_Room_things
  refine run_loop groups.length (fun i => r5_Room_things_L1 nodes stmts tnexts stages groups pairs dets vars texts i) _ ?_ fun i hi => ?_
  ·show r5_Room_things_L1 _ _ _ _ _ _ _ _ _ _ = _
   rw [r5_Room_things_L1, if_neg (by omega)]
   refine run_loop dets.length (fun i => r5_Room_things_L2 nodes stmts tnexts stages groups pairs dets vars texts i) _ ?_ fun i hi => ?_
   ·show r5_Room_things_L2 _ _ _ _ _ _ _ _ _ _ = _
    rw [r5_Room_things_L2, if_neg (by omega)]
    refine run_loop vars.length (fun i => r5_Room_things_L3 nodes stmts tnexts stages groups pairs dets vars texts i) _ ?_ fun i hi => ?_
    ·show r5_Room_things_L3 _ _ _ _ _ _ _ _ _ _ = _
     rw [r5_Room_things_L3, if_neg (by omega), r5_Room_things_L4, if_neg (by omega), r5_Room_things_L5, if_neg (by omega)]
    ·have hm := a8 _ (List.getElem_mem hi)
     show r5_Room_things_L3 _ _ _ _ _ _ _ _ _ _ = _
     rw [r5_Room_things_L3, if_pos (by omega), idx_at hi, some_bind, hm.at2, some_bind, hm.at1, some_bind, w64_succ (by omega), if_pos rfl, if_pos rfl]
   ·have hm := a7 _ (List.getElem_mem hi)
    show r5_Room_things_L2 _ _ _ _ _ _ _ _ _ _ = _
    rw [r5_Room_things_L2, if_pos (by omega), idx_at hi, some_bind, hm.at2, some_bind, hm.at1, some_bind, w64_succ (by omega), if_pos rfl, if_pos rfl]
  ·have hm := a5 _ (List.getElem_mem hi)
   have hm' := a6 _ (List.getElem_mem (show i < pairs.length by omega))
   show r5_Room_things_L1 _ _ _ _ _ _ _ _ _ _ = _
   rw [r5_Room_things_L1, if_pos (by omega), idx_at hi, some_bind, idx_at (by omega), some_bind, hm.at2, some_bind, hm.at1, some_bind, hm'.at2, some_bind, hm'.at1, some_bind, w64_succ (by omega), if_pos rfl, if_pos rfl, if_pos rfl, if_pos rfl]
 unfold r5_Room_Whole
 refine run_loop texts.length (fun i => r5_Room_Whole_L1 nodes stmts tnexts stages groups pairs dets vars texts i) _ ?_ fun i hi => ?_
 ·show r5_Room_Whole_L1 _ _ _ _ _ _ _ _ _ _ = _
  rw [r5_Room_Whole_L1, if_neg (by omega), r5_Room_Whole_L2, if_neg (by omega), r5_Room_Whole_L3, if_neg (by omega), r5_Room_Whole_L4, if_neg (by omega), pl, some_bind, if_pos rfl, th, some_bind]
 ·have hm := a9 _ (List.getElem_mem hi)
  show r5_Room_Whole_L1 _ _ _ _ _ _ _ _ _ _ = _
  rw [r5_Room_Whole_L1, if_pos (by omega), idx_at hi, some_bind, hm.at2, some_bind, hm.at1, some_bind, w64_succ (by omega), if_pos rfl, if_pos rfl]
theorem law (t : TypedT) (e : List NodeT) (typ : Int) (h : okN t) (hp : okP t) (hr : okR t) (hw : okW t) (he : okE e) : l5_CheckSounds t e typ = some true := by
 obtain ⟨n, st, tn, g1, g2, g3, g4, g5, g6, g7⟩ := room_typed t h hp hr
 obtain ⟨v1, v1a, v1b⟩ := grids t.Tables (Nat.le_trans h.g (by omega)) (Nat.le_trans h.c (by omega))
 obtain ⟨v2, v2a, v2b⟩ := sounds t h hp hw
 obtain ⟨v3, v3a, v3b⟩ := exprs t e typ he
 unfold l5_CheckSounds
 rw [g1, some_bind, room_nodes _ _ _ _ _ _ _ _ _ _ (by show n.length ≤ _; omega) he.1, some_bind]
 simp only [v1a, v1b, v2a, v2b, v3a, v3b, some_bind, typed_same t h hp, nodes_same e (Nat.le_trans he.1 (by omega)), decide_true, Bool.not_true, Bool.false_eq_true, if_false, if_true]
 obtain ⟨hg, hc, hd, hti, hco, hv, hs⟩ := h
 rw [whole _ _ _ _ _ _ _ _ _ (g2.snoc (by have := he.1; omega)) g3 g4 (.one (by omega)) (.one (by omega)) (.one (by omega)) (.one (by omega)) (.one (by omega)) ((Mks.one (by omega)).snoc (by omega)) (by simp; omega) (by omega) (by omega) (by simp) (by simp) (by simp) (by simp) (by simp) (by simp), some_bind]
end Go.Proofs.YtdcpfmjnkcodiaaDoor.We
namespace Go.Proofs.YtdcpfmjnkcodiaaDoor.We
open Go Go.Jv Go.Proofs
theorem und9 : Tryd.prog.underlying 9 = some .string := by kernel_rfl
theorem und3 : Tryd.prog.underlying 3 = some (.int .i64) := by kernel_rfl
theorem und200 : Tryd.prog.underlying 200 = some (.struct (Tryd.prog.fieldsOf 200)) := by kernel_rfl
theorem fts200 : (Tryd.prog.fieldsOf 200).toList.map (·.type) = [9, 3, 3, 3, 3] := by kernel_rfl
def GroupT.wf (x : GroupT) : Prop := strOk x.Name ∧ inK .i64 x.Sort_ ∧ inK .i64 x.Min ∧ inK .i64 x.Amber ∧ inK .i64 x.Lead
theorem dec200 {x : Dat} (h : Has Tryd.prog 200 x) : ∃ v : GroupT, x = GroupT.enc v ∧ GroupT.wf v := by
 obtain ⟨parts, rfl, hp⟩ := has_struct und200 fts200 h
 match parts, hp with
 | [_, _, _, _, _], ⟨h0, h1, h2, h3, h4, _⟩ =>
  obtain ⟨v0, rfl, w0⟩ := has_str und9 h0
  obtain ⟨v1, rfl, w1⟩ := has_int und3 h1
  obtain ⟨v2, rfl, w2⟩ := has_int und3 h2
  obtain ⟨v3, rfl, w3⟩ := has_int und3 h3
  obtain ⟨v4, rfl, w4⟩ := has_int und3 h4
  exact ⟨⟨v0, v1, v2, v3, v4⟩, rfl, w0, w1, w2, w3, w4⟩
theorem und86 : Tryd.prog.underlying 86 = some (.slice 200) := by kernel_rfl
theorem bo200 : Tryd.prog.bytesOf 200 = 48 := by kernel_rfl
theorem dec86 {x : Dat} (h : Has Tryd.prog 86 x) : ∃ v : List (GroupT), x = .lst (v.map (GroupT.enc)) ∧ lstOk 48 (GroupT.wf) v := has_lst und86 bo200 (fun _ h => dec200 h) h
theorem und203 : Tryd.prog.underlying 203 = some (.struct (Tryd.prog.fieldsOf 203)) := by kernel_rfl
theorem fts203 : (Tryd.prog.fieldsOf 203).toList.map (·.type) = [3, 3, 3, 3] := by kernel_rfl
def ConflictT.wf (x : ConflictT) : Prop := inK .i64 x.A ∧ inK .i64 x.B ∧ inK .i64 x.AB ∧ inK .i64 x.BA
theorem dec203 {x : Dat} (h : Has Tryd.prog 203 x) : ∃ v : ConflictT, x = ConflictT.enc v ∧ ConflictT.wf v := by
 obtain ⟨parts, rfl, hp⟩ := has_struct und203 fts203 h
 match parts, hp with
 | [_, _, _, _], ⟨h0, h1, h2, h3, _⟩ =>
  obtain ⟨v0, rfl, w0⟩ := has_int und3 h0
  obtain ⟨v1, rfl, w1⟩ := has_int und3 h1
  obtain ⟨v2, rfl, w2⟩ := has_int und3 h2
  obtain ⟨v3, rfl, w3⟩ := has_int und3 h3
  exact ⟨⟨v0, v1, v2, v3⟩, rfl, w0, w1, w2, w3⟩
theorem und87 : Tryd.prog.underlying 87 = some (.slice 203) := by kernel_rfl
theorem bo203 : Tryd.prog.bytesOf 203 = 32 := by kernel_rfl
theorem dec87 {x : Dat} (h : Has Tryd.prog 87 x) : ∃ v : List (ConflictT), x = .lst (v.map (ConflictT.enc)) ∧ lstOk 32 (ConflictT.wf) v := has_lst und87 bo203 (fun _ h => dec203 h) h
theorem und89 : Tryd.prog.underlying 89 = some (.struct (Tryd.prog.fieldsOf 89)) := by kernel_rfl
theorem fts89 : (Tryd.prog.fieldsOf 89).toList.map (·.type) = [86, 87] := by kernel_rfl
def TablesT.wf (x : TablesT) : Prop := lstOk 48 (GroupT.wf) x.Groups ∧ lstOk 32 (ConflictT.wf) x.Conflicts
theorem dec89 {x : Dat} (h : Has Tryd.prog 89 x) : ∃ v : TablesT, x = TablesT.enc v ∧ TablesT.wf v := by
 obtain ⟨parts, rfl, hp⟩ := has_struct und89 fts89 h
 match parts, hp with
 | [_, _], ⟨h0, h1, _⟩ =>
  obtain ⟨v0, rfl, w0⟩ := dec86 h0
  obtain ⟨v1, rfl, w1⟩ := dec87 h1
  exact ⟨⟨v0, v1⟩, rfl, w0, w1⟩
theorem und4 : Tryd.prog.underlying 4 = some .bool := by kernel_rfl
theorem und207 : Tryd.prog.underlying 207 = some (.struct (Tryd.prog.fieldsOf 207)) := by kernel_rfl
theorem fts207 : (Tryd.prog.fieldsOf 207).toList.map (·.type) = [9, 4, 3, 3] := by kernel_rfl
def DetT.wf (x : DetT) : Prop := strOk x.Name ∧ (fun _ => True) x.Latch ∧ inK .i64 x.Delay ∧ inK .i64 x.Hold
theorem dec207 {x : Dat} (h : Has Tryd.prog 207 x) : ∃ v : DetT, x = DetT.enc v ∧ DetT.wf v := by
 obtain ⟨parts, rfl, hp⟩ := has_struct und207 fts207 h
 match parts, hp with
 | [_, _, _, _], ⟨h0, h1, h2, h3, _⟩ =>
  obtain ⟨v0, rfl, w0⟩ := has_str und9 h0
  obtain ⟨v1, rfl, w1⟩ := has_bool und4 h1
  obtain ⟨v2, rfl, w2⟩ := has_int und3 h2
  obtain ⟨v3, rfl, w3⟩ := has_int und3 h3
  exact ⟨⟨v0, v1, v2, v3⟩, rfl, w0, w1, w2, w3⟩
theorem und90 : Tryd.prog.underlying 90 = some (.slice 207) := by kernel_rfl
theorem bo207 : Tryd.prog.bytesOf 207 = 40 := by kernel_rfl
theorem dec90 {x : Dat} (h : Has Tryd.prog 90 x) : ∃ v : List (DetT), x = .lst (v.map (DetT.enc)) ∧ lstOk 40 (DetT.wf) v := has_lst und90 bo207 (fun _ h => dec207 h) h
theorem und91 : Tryd.prog.underlying 91 = some (.slice 9) := by kernel_rfl
theorem bo9 : Tryd.prog.bytesOf 9 = 16 := by kernel_rfl
theorem dec91 {x : Dat} (h : Has Tryd.prog 91 x) : ∃ v : List (ByteArray), x = .lst (v.map (Dat.str)) ∧ lstOk 16 (strOk) v := has_lst und91 bo9 (fun _ h => has_str und9 h) h
theorem und21 : Tryd.prog.underlying 21 = some (.int .i32) := by kernel_rfl
theorem und193 : Tryd.prog.underlying 193 = some (.struct (Tryd.prog.fieldsOf 193)) := by kernel_rfl
theorem fts193 : (Tryd.prog.fieldsOf 193).toList.map (·.type) = [9, 21] := by kernel_rfl
def VarT.wf (x : VarT) : Prop := strOk x.Name ∧ inK .i32 x.Init
theorem dec193 {x : Dat} (h : Has Tryd.prog 193 x) : ∃ v : VarT, x = VarT.enc v ∧ VarT.wf v := by
 obtain ⟨parts, rfl, hp⟩ := has_struct und193 fts193 h
 match parts, hp with
 | [_, _], ⟨h0, h1, _⟩ =>
  obtain ⟨v0, rfl, w0⟩ := has_str und9 h0
  obtain ⟨v1, rfl, w1⟩ := has_int und21 h1
  exact ⟨⟨v0, v1⟩, rfl, w0, w1⟩
theorem und92 : Tryd.prog.underlying 92 = some (.slice 193) := by kernel_rfl
theorem bo193 : Tryd.prog.bytesOf 193 = 24 := by kernel_rfl
theorem dec92 {x : Dat} (h : Has Tryd.prog 92 x) : ∃ v : List (VarT), x = .lst (v.map (VarT.enc)) ∧ lstOk 24 (VarT.wf) v := has_lst und92 bo193 (fun _ h => dec193 h) h
theorem und138 : Tryd.prog.underlying 138 = some (.int .u64) := by kernel_rfl
theorem und76 : Tryd.prog.underlying 76 = some (.struct (Tryd.prog.fieldsOf 76)) := by kernel_rfl
theorem fts76 : (Tryd.prog.fieldsOf 76).toList.map (·.type) = [3, 3] := by kernel_rfl
def PosT.wf (x : PosT) : Prop := inK .i64 x.Line ∧ inK .i64 x.Col
theorem dec76 {x : Dat} (h : Has Tryd.prog 76 x) : ∃ v : PosT, x = PosT.enc v ∧ PosT.wf v := by
 obtain ⟨parts, rfl, hp⟩ := has_struct und76 fts76 h
 match parts, hp with
 | [_, _], ⟨h0, h1, _⟩ =>
  obtain ⟨v0, rfl, w0⟩ := has_int und3 h0
  obtain ⟨v1, rfl, w1⟩ := has_int und3 h1
  exact ⟨⟨v0, v1⟩, rfl, w0, w1⟩
theorem und115 : Tryd.prog.underlying 115 = some (.struct (Tryd.prog.fieldsOf 115)) := by kernel_rfl
theorem fts115 : (Tryd.prog.fieldsOf 115).toList.map (·.type) = [3, 21, 9, 76] := by kernel_rfl
def NodeT.wf (x : NodeT) : Prop := inK .i64 x.Op ∧ inK .i32 x.Val ∧ strOk x.Name ∧ PosT.wf x.At
theorem dec115 {x : Dat} (h : Has Tryd.prog 115 x) : ∃ v : NodeT, x = NodeT.enc v ∧ NodeT.wf v := by
 obtain ⟨parts, rfl, hp⟩ := has_struct und115 fts115 h
 match parts, hp with
 | [_, _, _, _], ⟨h0, h1, h2, h3, _⟩ =>
  obtain ⟨v0, rfl, w0⟩ := has_int und3 h0
  obtain ⟨v1, rfl, w1⟩ := has_int und21 h1
  obtain ⟨v2, rfl, w2⟩ := has_str und9 h2
  obtain ⟨v3, rfl, w3⟩ := dec76 h3
  exact ⟨⟨v0, v1, v2, v3⟩, rfl, w0, w1, w2, w3⟩
theorem und22 : Tryd.prog.underlying 22 = some (.slice 115) := by kernel_rfl
theorem bo115 : Tryd.prog.bytesOf 115 = 48 := by kernel_rfl
theorem dec22 {x : Dat} (h : Has Tryd.prog 22 x) : ∃ v : List (NodeT), x = .lst (v.map (NodeT.enc)) ∧ lstOk 48 (NodeT.wf) v := has_lst und22 bo115 (fun _ h => dec115 h) h
theorem und140 : Tryd.prog.underlying 140 = some (.struct (Tryd.prog.fieldsOf 140)) := by kernel_rfl
theorem fts140 : (Tryd.prog.fieldsOf 140).toList.map (·.type) = [3, 9, 3, 22, 76] := by kernel_rfl
def StmtT.wf (x : StmtT) : Prop := inK .i64 x.Kind ∧ strOk x.Name ∧ inK .i64 x.Ix ∧ lstOk 48 (NodeT.wf) x.Expr ∧ PosT.wf x.At
theorem dec140 {x : Dat} (h : Has Tryd.prog 140 x) : ∃ v : StmtT, x = StmtT.enc v ∧ StmtT.wf v := by
 obtain ⟨parts, rfl, hp⟩ := has_struct und140 fts140 h
 match parts, hp with
 | [_, _, _, _, _], ⟨h0, h1, h2, h3, h4, _⟩ =>
  obtain ⟨v0, rfl, w0⟩ := has_int und3 h0
  obtain ⟨v1, rfl, w1⟩ := has_str und9 h1
  obtain ⟨v2, rfl, w2⟩ := has_int und3 h2
  obtain ⟨v3, rfl, w3⟩ := dec22 h3
  obtain ⟨v4, rfl, w4⟩ := dec76 h4
  exact ⟨⟨v0, v1, v2, v3, v4⟩, rfl, w0, w1, w2, w3, w4⟩
theorem und58 : Tryd.prog.underlying 58 = some (.slice 140) := by kernel_rfl
theorem bo140 : Tryd.prog.bytesOf 140 = 72 := by kernel_rfl
theorem dec58 {x : Dat} (h : Has Tryd.prog 58 x) : ∃ v : List (StmtT), x = .lst (v.map (StmtT.enc)) ∧ lstOk 72 (StmtT.wf) v := has_lst und58 bo140 (fun _ h => dec140 h) h
theorem und198 : Tryd.prog.underlying 198 = some (.struct (Tryd.prog.fieldsOf 198)) := by kernel_rfl
theorem fts198 : (Tryd.prog.fieldsOf 198).toList.map (·.type) = [3, 22] := by kernel_rfl
def TNextT.wf (x : TNextT) : Prop := inK .i64 x.To ∧ lstOk 48 (NodeT.wf) x.When
theorem dec198 {x : Dat} (h : Has Tryd.prog 198 x) : ∃ v : TNextT, x = TNextT.enc v ∧ TNextT.wf v := by
 obtain ⟨parts, rfl, hp⟩ := has_struct und198 fts198 h
 match parts, hp with
 | [_, _], ⟨h0, h1, _⟩ =>
  obtain ⟨v0, rfl, w0⟩ := has_int und3 h0
  obtain ⟨v1, rfl, w1⟩ := dec22 h1
  exact ⟨⟨v0, v1⟩, rfl, w0, w1⟩
theorem und194 : Tryd.prog.underlying 194 = some (.slice 198) := by kernel_rfl
theorem bo198 : Tryd.prog.bytesOf 198 = 32 := by kernel_rfl
theorem dec194 {x : Dat} (h : Has Tryd.prog 194 x) : ∃ v : List (TNextT), x = .lst (v.map (TNextT.enc)) ∧ lstOk 32 (TNextT.wf) v := has_lst und194 bo198 (fun _ h => dec198 h) h
theorem und196 : Tryd.prog.underlying 196 = some (.struct (Tryd.prog.fieldsOf 196)) := by kernel_rfl
theorem fts196 : (Tryd.prog.fieldsOf 196).toList.map (·.type) = [9, 3, 138, 58, 58, 58, 194] := by kernel_rfl
def TStageT.wf (x : TStageT) : Prop := strOk x.Name ∧ inK .i64 x.Id ∧ inK .u64 x.Green ∧ lstOk 72 (StmtT.wf) x.Enter ∧ lstOk 72 (StmtT.wf) x.During ∧ lstOk 72 (StmtT.wf) x.Leave ∧ lstOk 32 (TNextT.wf) x.Nexts
theorem dec196 {x : Dat} (h : Has Tryd.prog 196 x) : ∃ v : TStageT, x = TStageT.enc v ∧ TStageT.wf v := by
 obtain ⟨parts, rfl, hp⟩ := has_struct und196 fts196 h
 match parts, hp with
 | [_, _, _, _, _, _, _], ⟨h0, h1, h2, h3, h4, h5, h6, _⟩ =>
  obtain ⟨v0, rfl, w0⟩ := has_str und9 h0
  obtain ⟨v1, rfl, w1⟩ := has_int und3 h1
  obtain ⟨v2, rfl, w2⟩ := has_int und138 h2
  obtain ⟨v3, rfl, w3⟩ := dec58 h3
  obtain ⟨v4, rfl, w4⟩ := dec58 h4
  obtain ⟨v5, rfl, w5⟩ := dec58 h5
  obtain ⟨v6, rfl, w6⟩ := dec194 h6
  exact ⟨⟨v0, v1, v2, v3, v4, v5, v6⟩, rfl, w0, w1, w2, w3, w4, w5, w6⟩
theorem und93 : Tryd.prog.underlying 93 = some (.slice 196) := by kernel_rfl
theorem bo196 : Tryd.prog.bytesOf 196 = 128 := by kernel_rfl
theorem dec93 {x : Dat} (h : Has Tryd.prog 93 x) : ∃ v : List (TStageT), x = .lst (v.map (TStageT.enc)) ∧ lstOk 128 (TStageT.wf) v := has_lst und93 bo196 (fun _ h => dec196 h) h
theorem und95 : Tryd.prog.underlying 95 = some (.struct (Tryd.prog.fieldsOf 95)) := by kernel_rfl
theorem fts95 : (Tryd.prog.fieldsOf 95).toList.map (·.type) = [9, 89, 90, 91, 91, 92, 93, 3] := by kernel_rfl
def TypedT.wf (x : TypedT) : Prop := strOk x.Name ∧ TablesT.wf x.Tables ∧ lstOk 40 (DetT.wf) x.Dets ∧ lstOk 16 (strOk) x.Timers ∧ lstOk 16 (strOk) x.Counters ∧ lstOk 24 (VarT.wf) x.Vars ∧ lstOk 128 (TStageT.wf) x.Stages ∧ inK .i64 x.Start
theorem dec95 {x : Dat} (h : Has Tryd.prog 95 x) : ∃ v : TypedT, x = TypedT.enc v ∧ TypedT.wf v := by
 obtain ⟨parts, rfl, hp⟩ := has_struct und95 fts95 h
 match parts, hp with
 | [_, _, _, _, _, _, _, _], ⟨h0, h1, h2, h3, h4, h5, h6, h7, _⟩ =>
  obtain ⟨v0, rfl, w0⟩ := has_str und9 h0
  obtain ⟨v1, rfl, w1⟩ := dec89 h1
  obtain ⟨v2, rfl, w2⟩ := dec90 h2
  obtain ⟨v3, rfl, w3⟩ := dec91 h3
  obtain ⟨v4, rfl, w4⟩ := dec91 h4
  obtain ⟨v5, rfl, w5⟩ := dec92 h5
  obtain ⟨v6, rfl, w6⟩ := dec93 h6
  obtain ⟨v7, rfl, w7⟩ := has_int und3 h7
  exact ⟨⟨v0, v1, v2, v3, v4, v5, v6, v7⟩, rfl, w0, w1, w2, w3, w4, w5, w6, w7⟩
theorem blkL_mem {xs : List Dat} {x : Dat} (h : x ∈ xs) : blk x ≤ blkL xs := by
 induction xs with
 | nil => cases h
 | cons y xs ih =>
  simp only [blkL]
  rcases List.mem_cons.1 h with rfl | h
  ·omega
  ·have := ih h; omega
theorem blkL_len {xs : List Dat} (h : ∀ x, x ∈ xs → 1 ≤ blk x) : xs.length ≤ blkL xs := by
 induction xs with
 | nil => simp
 | cons y xs ih =>
  have h1 := h y List.mem_cons_self
  have h2 := ih fun x hx => h x (List.mem_cons_of_mem _ hx)
  simp only [blkL, List.length_cons]; omega
theorem map_len {α : Type} {enc : α → Dat} (h : ∀ v, 1 ≤ blk (enc v)) (l : List α) : l.length ≤ blkL (l.map enc) := by
 have := blkL_len (xs := l.map enc) fun x hx => by obtain ⟨v, _, rfl⟩ := List.mem_map.1 hx; exact h v
 simpa using this
theorem map_mem {α : Type} {enc : α → Dat} {l : List α} {v : α} (h : v ∈ l) : blk (enc v) ≤ blkL (l.map enc) := blkL_mem (List.mem_map_of_mem h)
theorem pos1 (v : NodeT) : 1 ≤ blk v.enc := by simp [NodeT.enc, blk, blkL]
theorem pos2 (v : StmtT) : 1 ≤ blk v.enc := by simp [StmtT.enc, blk, blkL]
theorem pos3 (v : TNextT) : 1 ≤ blk v.enc := by simp [TNextT.enc, blk, blkL]
theorem pos4 (v : TStageT) : 1 ≤ blk v.enc := by simp [TStageT.enc, blk, blkL]; omega
theorem pos5 (v : GroupT) : 1 ≤ blk v.enc := by simp [GroupT.enc, blk, blkL]
theorem pos6 (v : ConflictT) : 1 ≤ blk v.enc := by simp [ConflictT.enc, blk, blkL]
theorem pos7 (v : DetT) : 1 ≤ blk v.enc := by simp [DetT.enc, blk, blkL]
theorem pos8 (v : VarT) : 1 ≤ blk v.enc := by simp [VarT.enc, blk, blkL]
theorem pos9 (v : ByteArray) : 1 ≤ blk (.str v) := by simp [blk]
theorem i32_range {n : Int} (h : inK .i32 n) : -2147483648 ≤ n ∧ n ≤ 2147483647 := by
 simp [inK, Lit.wf, IntKind.min, IntKind.max, IntKind.bits, IntKind.signed] at h
 omega
theorem expr_ok {e : List NodeT} (hw : ∀ v, v ∈ e → NodeT.wf v) (hb : blkL (e.map NodeT.enc) ≤ 1048576) : okE e := by
 have := map_len pos1 e
 exact ⟨by omega, fun i h => i32_range (hw _ (List.getElem_mem h)).2.1⟩
theorem list_ok {l : List StmtT} (hw : ∀ v, v ∈ l → StmtT.wf v) (hb : blkL (l.map StmtT.enc) ≤ 1048576) : okL l ∧ l.length ≤ 1048576 := by
 have := map_len pos2 l
 refine ⟨⟨by omega, fun i h => expr_ok (hw _ (List.getElem_mem h)).2.2.2.1.2 ?_⟩, by omega⟩
 have h2 := map_mem (enc := StmtT.enc) (List.getElem_mem h)
 simp only [StmtT.enc, blk, blkL] at h2
 omega
theorem stage_ok {s : TStageT} (hw : TStageT.wf s) (hb : blk s.enc ≤ 1048576) : okG s ∧ s.Enter.length ≤ 1048576 ∧ s.During.length ≤ 1048576 ∧ s.Leave.length ≤ 1048576 ∧ s.Nexts.length ≤ 1048576 := by
 obtain ⟨_, _, _, w1, w2, w3, w4⟩ := hw
 simp only [TStageT.enc, blk, blkL] at hb
 obtain ⟨a1, b1⟩ := list_ok w1.2 (by omega)
 obtain ⟨a2, b2⟩ := list_ok w2.2 (by omega)
 obtain ⟨a3, b3⟩ := list_ok w3.2 (by omega)
 have hn := map_len pos3 s.Nexts
 refine ⟨⟨a1, a2, a3, by omega, fun i h => expr_ok (w4.2 _ (List.getElem_mem h)).2.2 ?_⟩, b1, b2, b3, by omega⟩
 have h2 := map_mem (enc := TNextT.enc) (List.getElem_mem h)
 simp only [TNextT.enc, blk, blkL] at h2
 omega
theorem typed_ok {t : TypedT} (hw : TypedT.wf t) (hb : blk t.enc ≤ 1048576) : okN t ∧ okP t ∧ okR t ∧ okW t := by
 obtain ⟨_, ⟨_, _⟩, _, _, _, _, w, _⟩ := hw
 simp only [TypedT.enc, blk, blkL] at hb
 have h1 := map_len pos5 t.Tables.Groups
 have h2 := map_len pos6 t.Tables.Conflicts
 have h3 := map_len pos7 t.Dets
 have h4 := map_len pos9 t.Timers
 have h5 := map_len pos9 t.Counters
 have h6 := map_len pos8 t.Vars
 have h7 := map_len pos4 t.Stages
 have st : ∀ i (h : i < t.Stages.length), okG (t.Stages[i]) ∧ (t.Stages[i]).Enter.length ≤ 1048576 ∧ (t.Stages[i]).During.length ≤ 1048576 ∧ (t.Stages[i]).Leave.length ≤ 1048576 ∧ (t.Stages[i]).Nexts.length ≤ 1048576 := fun i h =>
  stage_ok (w.2 _ (List.getElem_mem h)) (Nat.le_trans (map_mem (enc := TStageT.enc) (List.getElem_mem h)) (by omega))
 refine ⟨⟨by omega, by omega, by omega, by omega, by omega, by omega, by omega⟩, fun i h => (st i h).1, ⟨by omega, fun i h => (st i h).2⟩, by omega, fun x hx => ?_⟩
 simp only [names, List.mem_append, List.mem_map] at hx
 rcases hx with ((((hx | hx) | ⟨g, hx, rfl⟩) | ⟨g, hx, rfl⟩) | ⟨g, hx, rfl⟩) | ⟨g, hx, rfl⟩
 ·have := map_mem (enc := Dat.str) hx
  simp only [blk] at this; omega
 ·have := map_mem (enc := Dat.str) hx
  simp only [blk] at this; omega
 ·have := map_mem (enc := GroupT.enc) hx
  simp only [GroupT.enc, blk, blkL] at this
  omega
 ·have := map_mem (enc := DetT.enc) hx
  simp only [DetT.enc, blk, blkL] at this
  omega
 ·have := map_mem (enc := VarT.enc) hx
  simp only [VarT.enc, blk, blkL] at this
  omega
 ·have := map_mem (enc := TStageT.enc) hx
  simp only [TStageT.enc, blk, blkL] at this
  omega
theorem law_ok (t : TypedT) (e : List NodeT) (typ : Int) (ht : TypedT.wf t) (he : lstOk 48 NodeT.wf e) (hb : blkL [TypedT.enc t, .lst (e.map NodeT.enc), .int .i64 typ] ≤ 1048576) : l5_CheckSounds t e typ = some true := by
 have h1 : blk t.enc ≤ 1048576 := Nat.le_trans (blkL_mem List.mem_cons_self) hb
 have h2 : blkL (e.map NodeT.enc) ≤ 1048576 := by
  have := Nat.le_trans (blkL_mem (x := .lst (e.map NodeT.enc)) (by simp)) hb
  simp only [blk] at this; omega
 obtain ⟨a, b, c, d⟩ := typed_ok ht h1
 exact law t e typ a b c d (expr_ok he.2 h2)
end Go.Proofs.YtdcpfmjnkcodiaaDoor.We
